/- link.Needs and the document's answer agree. -/
import Derived.Test.YtmndifhjmbiodaaLinkReach
namespace Go.Proofs.Ytmndifhjmbiodaa
open Go Go.Ab S
variable {nf : Nat}

/-- whom an object wants, as the table tells -/
def wantsOf (L : List Ob) (o : Ob) : List Int := o.2.2.1.filterMap fun w => (loc L 0 0 w.1).map (·.1)
def nextB (L : List Ob) : List (List Int) := L.map (wantsOf L)

theorem loc_in {L : List Ob} (hG : Good L) {n : Int} {y : Int × Int} (h : loc L 0 0 n = some y) : 0 ≤ y.1 ∧ y.1 < L.length := by
  have := (loc_range L 0 0 n y hG.small hG.place h).1
  omega
theorem nextB_ok {L : List Ob} (hG : Good L) : WayOK (nextB L) := by
  refine ⟨by have := hG.len; simp [nextB]; omega, fun l hl => ?_, fun l hl j hj => ?_⟩
  · obtain ⟨o, ho, rfl⟩ := List.mem_map.1 hl
    have := List.length_filterMap_le (fun w : Pt => (loc L 0 0 w.1).map (·.1)) o.2.2.1
    have := (big_len (hG.small o ho)).2.2
    simp only [wantsOf]; omega
  · obtain ⟨o, ho, rfl⟩ := List.mem_map.1 hl
    obtain ⟨w, hw, he⟩ := List.mem_filterMap.1 hj
    obtain ⟨y, hy, rfl⟩ := Option.map_eq_some_iff.1 he
    simpa [nextB] using loc_in hG hy
theorem nextB_at {L : List Ob} {i : Int} (h0 : 0 ≤ i) (h1 : i < L.length) : nexts (nextB L) i = wantsOf L (ob L i) := by
  have : i.toNat < L.length := by omega
  simp [nexts, nextB, ob, List.getD_eq_getElem?_getD, this]

def wstep (L : List Ob) (u : List Int) (w : Pt) : List Int := match loc L 0 0 w.1 with | some y => addN (-1) u y.1 | none => u
theorem wants_fold (L : List Ob) : ∀ (l : List Pt) (s : List Int), (l.filterMap fun w => (loc L 0 0 w.1).map (·.1)).foldl (addN (-1)) s = l.foldl (wstep L) s
  | [], _ => rfl
  | w :: l, s => by
    simp only [List.filterMap_cons, List.foldl_cons, wstep]
    cases loc L 0 0 w.1 with
    | none => exact wants_fold L l s
    | some y => exact wants_fold L l _

theorem needs_l2 {L : List Ob} (hG : Good L) {T : Tb} (hT : Says T (loc L 0 0)) (hn : 300 ≤ nf) {k : Nat} {s : List Int} (hs : Nodes L.length s) (hk : k < s.length) (g : Int → List Int → Tb → Option (Int × Int × Unit)) :
    link_Needs_l2 nf L (s.drop k) g nf (wd s) (s.drop k) T 0 = g (wd ((nexts (nextB L) (s.getD k 0)).foldl (addN (-1)) s)) (((nexts (nextB L) (s.getD k 0)).foldl (addN (-1)) s).drop (k + 1)) T := by
  have hh := nodes_at hs hk
  have h5 := hG.len
  have hq : (s.drop k).getD 0 0 = s.getD k 0 := by simp [List.getD_eq_getElem?_getD]
  have hb := big_len (hG.small (ob L (s.getD k 0)) (getD_mem hh.1 hh.2))
  have hml : (ob L (s.getD k 0)).2.2.1.length ≤ maxLen := Nat.le_trans hb.2.2 (by decide)
  have e1 := loop_all (l := (ob L (s.getD k 0)).2.2.1) (d := (0, 0, ())) (F := fun fu t (z : Int × List Int) => link_Needs_l2 nf L (s.drop k) g fu z.1 z.2 T t)
    (step := fun w _ z g2 => match loc L 0 0 w.1 with
      | some y => bif and32 (shrI .u32 z.1 y.1) 1 == 0 then (bif (z.2.length + 1).ble lim then g2 (or32 z.1 (shlI .u32 1 y.1), z.2 ++ [y.1]) else none) else g2 z
      | none => g2 z)
    (fin := fun z => bif decide ((1 : Int) ≤ z.2.length) then g z.1 (z.2.drop 1) T else none) (fun fu t z h0 ht => by
      simp only [link_Needs_l2, link_Needs_b2, hq]
      rw [show L.getD (s.getD k 0).toNat ([], [], [], ()) = ob L (s.getD k 0) from rfl]
      simp only [ht, decide_true, cond_true, inb_ok h0 ht, both_self, wrap_step h0 ht hml, (hT _).1]
      cases hl : loc L 0 0 ((ob L (s.getD k 0)).2.2.1.getD t.toNat (0, 0, ())).1 with
      | none => rfl
      | some y =>
        have hy := loc_in hG hl
        simp only [Option.map_some, Option.isSome_some, cond_true, Option.getD_some, hy.1, decide_true, bimp, Bool.not_false, Bool.true_and, Bool.false_or, List.length_singleton]
        rfl) (fun fu t z ht => by
      subst ht
      simp only [link_Needs_l2, link_Needs_b2, hq]
      rw [show L.getD (s.getD k 0).toNat ([], [], [], ()) = ob L (s.getD k 0) from rfl]
      simp only [Int.lt_irrefl, decide_false, cond_false, Int.le_refl, decide_true, Bool.and_true]
      have e : List.take ((z.2.length : Int) - 1).toNat (List.drop 1 z.2) = List.drop 1 z.2 := List.take_of_length_le (by simp only [List.length_drop]; omega)
      rw [e]
      rfl) nf (wd s, s.drop k) (by omega)
  have e2 := goL_sim (I := fun (z : Int × List Int) (u : List Int) => z.1 = wd u ∧ z.2 = u.drop k ∧ Nodes L.length u ∧ k < u.length)
    (f := wstep L)
    (step := fun w _ z g2 => match loc L 0 0 w.1 with
      | some y => bif and32 (shrI .u32 z.1 y.1) 1 == 0 then (bif (z.2.length + 1).ble lim then g2 (or32 z.1 (shlI .u32 1 y.1), z.2 ++ [y.1]) else none) else g2 z
      | none => g2 z)
    (fin := fun z => bif decide ((1 : Int) ≤ z.2.length) then g z.1 (z.2.drop 1) T else none)
    (ob L (s.getD k 0)).2.2.1 0 (wd s, s.drop k) s ⟨rfl, rfl, hs, hk⟩ (fun w _ t z u hz => by
      obtain ⟨z1, z2, z3, z4⟩ := hz
      cases hl : loc L 0 0 w.1 with
      | none => exact ⟨z, fun _ => rfl, by simp only [wstep, hl]; exact ⟨z1, z2, z3, z4⟩⟩
      | some y =>
        have hy := loc_in hG hl
        have h32 : ∀ x ∈ u, 0 ≤ x ∧ x < 32 := fun x hx => by have := z3.good x hx; omega
        simp only [wstep, hl]
        by_cases hm : y.1 ∈ u
        · have e : addN (-1) u y.1 = u := by unfold addN; rw [if_neg fun h => h.2 hm]
          refine ⟨z, fun g2 => ?_, ?_⟩
          · rw [z1, shr_and_beq0 (wd_w h32) hy.1 (by omega), wd_bt h32, Int.toNat_of_nonneg hy.1, decide_eq_true hm]
            rfl
          · rw [e]; exact ⟨z1, z2, z3, z4⟩
        · have e : addN (-1) u y.1 = u ++ [y.1] := by unfold addN; rw [if_pos ⟨by omega, hm⟩]
          have hN := addN_nodes (wo := -1) z3 hy
          rw [e] at hN
          have hlen := hN.len
          simp only [List.length_append, List.length_singleton] at hlen
          refine ⟨(or32 (wd u) (shlI .u32 1 y.1), u.drop k ++ [y.1]), fun g2 => ?_, ?_⟩
          · rw [z1, z2, shr_and_beq0 (wd_w h32) hy.1 (by omega), wd_bt h32, Int.toNat_of_nonneg hy.1, decide_eq_false hm, ble_ok (by simp only [List.length_drop]; omega)]
            rfl
          · rw [e]
            exact ⟨(wd_snoc u y.1).symm, by simp only; rw [List.drop_append_of_le_length (by omega)], hN, by simp; omega⟩)
  obtain ⟨z, ⟨z1, z2, z3, z4⟩, e3⟩ := e2
  rw [show link_Needs_l2 nf L (s.drop k) g nf (wd s) (s.drop k) T 0 = _ from e1, e3, nextB_at hh.1 hh.2, wantsOf, wants_fold]
  generalize List.foldl _ s _ = u at z1 z2 z3 z4 ⊢
  rw [z1, z2]
  have : ((1 : Int) ≤ ((u.drop k).length : Int)) := by simp only [List.length_drop]; omega
  rw [decide_eq_true this, cond_true, List.drop_drop]

theorem needs_l0 {L : List Ob} (hG : Good L) {T : Tb} (hT : Says T (loc L 0 0)) (hn : 300 ≤ nf) : ∀ (fu k : Nat) (s : List Int), Nodes L.length s → k ≤ s.length → L.length + 1 ≤ k + fu → link_Needs_l0 nf L fu (wd s) (s.drop k) T = some (wd (reachGo (nextB L) (-1) fu s k), 0, ())
  | 0, k, s, hs, hk, hf => by have := hs.len; omega
  | fu + 1, k, s, hs, hk, hf => by
    simp only [link_Needs_l0, link_Needs_b0, reachGo]
    by_cases h : k < s.length
    · have hh := nodes_at hs h
      have hq : (s.drop k).getD 0 0 = s.getD k 0 := by simp [List.getD_eq_getElem?_getD]
      have hlen : ((s.drop k).length : Int) > 0 := by simp only [List.length_drop]; omega
      rw [decide_eq_true hlen, cond_true, inb_ok (Int.le_refl _) hlen, cond_true, hq, inb_ok hh.1 hh.2, cond_true, needs_l2 hG hT hn hs h, if_pos h]
      have hlen' : (nextB L).length = L.length := by simp [nextB]
      have hN := round_nodes (nextB_ok hG) (wo := -1) (x := s.getD k 0) (by rw [hlen']; exact hh) (s := s) (by rw [hlen']; exact hs)
      rw [hlen'] at hN
      have := addN_grow (-1) (nexts (nextB L) (s.getD k 0)) s
      exact needs_l0 hG hT hn fu (k + 1) _ hN (by omega) (by omega)
    · rw [if_neg h, List.drop_eq_nil_of_le (by omega)]
      rfl

theorem needs_F (L : List Ob) (hn : 300 ≤ nf) : link_Needs_f nf L = some (if objCode L = 0 then (if L.length = 0 then (0, 0, ()) else (wd (reach nf (nextB L) 0 (-1)), 0, ())) else (0, objCode L, ())) := by
  unfold link_Needs_f link_Needs_p
  obtain ⟨h1, h2⟩ := build_F L hn
  by_cases hc : objCode L = 0
  · obtain ⟨t, e1, e2, e3⟩ := h1 hc
    have hG := good_of hc
    have h5 := hG.len
    rw [e3, if_pos hc]
    simp only [Option.bind_some, bne_self_eq_false, cond_false]
    by_cases h0 : L.length = 0
    · rw [if_pos h0]; simp [h0]
    · rw [if_neg h0, beq_f (show ¬ (L.length : Int) = 0 by omega), cond_false]
      have := needs_l0 hG e2 hn nf 0 [0] ⟨by simp, fun x hx => by simp only [List.mem_singleton] at hx; subst hx; omega⟩ (by simp) (by omega)
      have ew : wd [0] = 1 := by decide +kernel
      rw [ew] at this
      simp only [reach, show ¬ ((0 : Int) = -1) by decide, if_false]
      exact this
  · rw [h2 hc, if_neg hc]
    simp only [Option.bind_some, bne_t hc, cond_true]

theorem addN_one {s : List Int} {j y : Int} (hj : 0 ≤ j) : y ∈ addN (-1) s j ↔ y ∈ s ∨ y = j := by
  unfold addN
  by_cases h : j ∈ s
  · rw [if_neg fun h' => h'.2 h]
    exact ⟨.inl, fun h' => h'.elim id fun e => e ▸ h⟩
  · rw [if_pos ⟨by omega, h⟩]
    simp

theorem addN_has {s : List Int} {j : Int} (h : j ∈ s) : addN (-1) s j = s := by
  unfold addN
  rw [if_neg fun h' => h'.2 h]
theorem addN_twice {j : Int} (hj : 0 ≤ j) (u : List Int) : addN (-1) (addN (-1) u j) j = addN (-1) u j := addN_has ((addN_one hj).2 (.inr rfl))

/-- the document: an object's row, from a name -/
def hasN (n : Int) (p : Ob) : Bool := p.2.1.any fun h => n == h.1
def edge (o p : Ob) : Bool := o.2.2.1.any fun w => hasN w.1 p

theorem wanted_l6 {L : List Ob} {i j : Int} {o : Ob} {t29 : Int} {g4 : List (List Int) → Ob → List Int → Ob → Int → Option (Int × Unit)} {g2 : List (List Int) → Ob → List Int → Int → Option (Int × Unit)} {g0 : List (List Int) → Int → Option (Int × Unit)}
    (hl : L.length ≤ 5) (hj : 0 ≤ j ∧ j < L.length) {p : Ob} (hp : big p = false) {nx : List (List Int)} {o2 : Ob} {w : Pt} (ht : 0 ≤ t29 ∧ t29 < 20) (hn : 300 ≤ nf) (s : List Int) (hs : Nodes L.length s) :
    ref_Wanted_l6 nf L j i o t29 p g4 g2 g0 nf nx o2 s p w 0 = g4 nx o2 (if hasN w.1 p = true then addN (-1) s j else s) p (t29 + 1) := by
  obtain ⟨l1, l2, l3⟩ := big_len hp
  have e1 := loop_all (l := p.2.1) (d := (0, 0, ())) (F := fun fu t (z : List Int) => ref_Wanted_l6 nf L j i o t29 p g4 g2 g0 fu nx o2 z p w t)
    (step := fun h _ z g => bif w.1 == h.1 then (Option.bind (ref_Has_f nf z j) fun r => bif !r.1 then (bif (z.length + 1).ble lim then g (z ++ [j]) else none) else g z) else g z) (fin := fun z => g4 nx o2 z p (t29 + 1)) (fun fu t z h0 h1 => by
    simp only [ref_Wanted_l6, ref_Wanted_b6, h1, decide_true, cond_true, inb_ok h0 h1, wrap_step h0 h1 (by simp [maxLen]; omega)]
    rfl) (fun fu t z h1 => by
    subst h1
    simp only [ref_Wanted_l6, ref_Wanted_b6, Int.lt_irrefl, decide_false, cond_false, wr (x := t29 + 1) (by omega)]) nf s (by omega)
  rw [show ref_Wanted_l6 nf L j i o t29 p g4 g2 g0 nf nx o2 s p w 0 = _ from e1]
  rw [goL_fold (f := fun u (h : Pt) => if w.1 = h.1 then addN (-1) u j else u) (fun u => Nodes L.length u) p.2.1 0 s hs (fun h _ t z g hz => by
    have hzl := hz.len
    by_cases he : w.1 = h.1
    · rw [if_pos he, has_F z j (by simp [maxLen]; omega) (by omega)]
      refine ⟨?_, addN_nodes hz hj⟩
      have hb : (w.1 == h.1) = true := by rw [he]; exact beq_self_eq_true _
      rw [hb, cond_true, Option.bind_some]
      unfold addN
      by_cases hm : j ∈ z
      · rw [if_neg fun h => h.2 hm, decide_eq_true hm]; rfl
      · rw [if_pos ⟨by omega, hm⟩, decide_eq_false hm, ble_ok (by omega)]; rfl
    · rw [if_neg he, beq_f he]
      exact ⟨rfl, hz⟩)]
  congr 1
  unfold hasN
  clear e1
  have hadd : ∀ u, addN (-1) (addN (-1) u j) j = addN (-1) u j := addN_twice hj.1
  have key : ∀ (l : List Pt) (u : List Int), l.foldl (fun u (h : Pt) => if w.1 = h.1 then addN (-1) u j else u) u = if (l.any fun h => w.1 == h.1) = true then addN (-1) u j else u := by
    intro l
    induction l with
    | nil => intro u; rfl
    | cons h r ih =>
      intro u
      rw [List.foldl_cons, ih, List.any_cons]
      by_cases he : w.1 = h.1
      · rw [if_pos he]
        have hb : (w.1 == h.1) = true := by rw [he]; exact beq_self_eq_true _
        rw [hb, Bool.true_or, if_pos rfl, hadd]
        split <;> rfl
      · rw [if_neg he, beq_f he, Bool.false_or]
  exact key p.2.1 s

theorem wanted_l4 {L : List Ob} {i j : Int} {g2 : List (List Int) → Ob → List Int → Int → Option (Int × Unit)} {g0 : List (List Int) → Int → Option (Int × Unit)}
    (hl : L.length ≤ 5) (hj : 0 ≤ j ∧ j < L.length) {o p : Ob} (ho : big o = false) (hp : big p = false) {nx : List (List Int)} (hn : 300 ≤ nf) (s : List Int) (hs : Nodes L.length s) :
    ref_Wanted_l4 nf L j i o g2 g0 nf nx o s p 0 = g2 nx o (if edge o p = true then addN (-1) s j else s) (j + 1) := by
  obtain ⟨l1, l2, l3⟩ := big_len ho
  have hadd : ∀ u, addN (-1) (addN (-1) u j) j = addN (-1) u j := addN_twice hj.1
  obtain ⟨fu', z, ⟨hz1, hz2⟩, e⟩ := loop_inv (n := (o.2.2.1.length : Int)) (F := fun fu t (z : List Int) => ref_Wanted_l4 nf L j i o g2 g0 fu nx o z p t) (fun t z => Nodes L.length z ∧ z = if ((o.2.2.1.take t.toNat).any fun w => hasN w.1 p) = true then addN (-1) s j else s) (fun fu t z h0 h1 hz => by
    refine ⟨if hasN (o.2.2.1.getD t.toNat (0, 0, ())).1 p = true then addN (-1) z j else z, ?_, ?_, ?_⟩
    · simp only [ref_Wanted_l4, ref_Wanted_b4, h1, decide_true, cond_true, inb_ok h0 h1]
      rw [wanted_l6 hl hj hp ⟨h0, by omega⟩ hn z hz.1]
    · split
      · exact addN_nodes hz.1 hj
      · exact hz.1
    · have e : o.2.2.1.take (t + 1).toNat = o.2.2.1.take t.toNat ++ [o.2.2.1.getD t.toNat (0, 0, ())] := by
        rw [show (t + 1).toNat = t.toNat + 1 by omega, List.take_add_one, List.getD_eq_getElem?_getD]
        have : t.toNat < o.2.2.1.length := by omega
        simp [this]
      rw [e, List.any_append, hz.2]
      simp only [List.any_cons, List.any_nil, Bool.or_false]
      cases (o.2.2.1.take t.toNat).any fun w => hasN w.1 p <;> cases hasN (o.2.2.1.getD t.toNat (0, 0, ())).1 p <;> simp [hadd]) nf 0 s (Int.le_refl _) (by omega) (by omega) ⟨hs, by simp⟩
  rw [show ref_Wanted_l4 nf L j i o g2 g0 nf nx o s p 0 = _ from e]
  simp only [ref_Wanted_l4, ref_Wanted_b4, Int.lt_irrefl, decide_false, cond_false, wrap_step hj.1 hj.2 (by simp [maxLen]; omega)]
  rw [hz2, Int.toNat_natCast, List.take_length]
  rfl

theorem wanted_l2 {L : List Ob} {i : Int} {g0 : List (List Int) → Int → Option (Int × Unit)} (hG : Good L) (hi : 0 ≤ i ∧ i < L.length) {nx : List (List Int)} (hnx : nx.length ≤ 5) (hn : 300 ≤ nf) :
    ∃ row : List Int, Nodes L.length row ∧ (∀ y, y ∈ row ↔ (0 ≤ y ∧ y < L.length) ∧ edge (ob L i) (ob L y) = true) ∧ ref_Wanted_l2 nf L i g0 nf nx (ob L i) [] 0 = g0 (nx ++ [row]) (i + 1) := by
  have h5 := hG.len
  have hoi := hG.small (ob L i) (getD_mem hi.1 hi.2)
  obtain ⟨fu', z, ⟨hz1, hz2⟩, e⟩ := loop_inv (n := (L.length : Int)) (F := fun fu t (z : List Int) => ref_Wanted_l2 nf L i g0 fu nx (ob L i) z t) (fun t z => Nodes L.length z ∧ ∀ y, y ∈ z ↔ (0 ≤ y ∧ y < t) ∧ edge (ob L i) (ob L y) = true) (fun fu t z h0 h1 hz => by
    refine ⟨if edge (ob L i) (ob L t) = true then addN (-1) z t else z, ?_, ?_, fun y => ?_⟩
    · simp only [ref_Wanted_l2, ref_Wanted_b2, h1, decide_true, cond_true, inb_ok h0 h1]
      exact wanted_l4 h5 ⟨h0, h1⟩ hoi (hG.small (ob L t) (getD_mem h0 h1)) hn z hz.1
    · split
      · exact addN_nodes hz.1 ⟨h0, h1⟩
      · exact hz.1
    · by_cases hE : edge (ob L i) (ob L t) = true
      · rw [if_pos hE, addN_one h0, hz.2]
        constructor
        · rintro (⟨⟨a, b⟩, c⟩ | rfl)
          · exact ⟨⟨a, by omega⟩, c⟩
          · exact ⟨⟨h0, by omega⟩, hE⟩
        · rintro ⟨⟨a, b⟩, c⟩
          by_cases hy : y = t
          · exact .inr hy
          · exact .inl ⟨⟨a, by omega⟩, c⟩
      · rw [if_neg hE, hz.2]
        constructor
        · rintro ⟨⟨a, b⟩, c⟩
          exact ⟨⟨a, by omega⟩, c⟩
        · rintro ⟨⟨a, b⟩, c⟩
          refine ⟨⟨a, ?_⟩, c⟩
          have : y ≠ t := fun h => hE (h ▸ c)
          omega) nf 0 [] (Int.le_refl _) (by omega) (by omega) ⟨⟨List.nodup_nil, fun _ h => (by cases h)⟩, fun y => ⟨fun h => (by cases h), fun h => (by omega)⟩⟩
  refine ⟨z, hz1, hz2, ?_⟩
  rw [show ref_Wanted_l2 nf L i g0 nf nx (ob L i) [] 0 = _ from e]
  simp only [ref_Wanted_l2, ref_Wanted_b2, Int.lt_irrefl, decide_false, cond_false, wrap_step hi.1 hi.2 (by simp [maxLen]; omega), List.length_singleton]
  rw [ble_ok (n := nx.length + 1) (by omega)]
  rfl

theorem edge_iff {L : List Ob} (hG : Good L) {i y : Int} (hi : 0 ≤ i ∧ i < L.length) (hy : 0 ≤ y ∧ y < L.length) : edge (ob L i) (ob L y) = true ↔ y ∈ wantsOf L (ob L i) := by
  have key : ∀ (r : List Ob) (a at' n : Int), (names r).Nodup → ∀ j : Nat, j < r.length → (hasN n (r.getD j ([], [], [], ())) = true ↔ (loc r a at' n).map (·.1) = some (a + j)) := by
    intro r
    induction r with
    | nil => intro a at' n _ j hj; simp at hj
    | cons o r ih =>
      intro a at' n hnd j hj
      have hnm : names (o :: r) = o.2.1.map (·.1) ++ names r := by simp [names]
      rw [hnm, List.nodup_append] at hnd
      have hin : ∀ p : Ob, hasN n p = true ↔ n ∈ p.2.1.map (·.1) := fun p => by
        simp only [hasN, List.any_eq_true, beq_iff_eq, List.mem_map]
        exact ⟨fun ⟨h, h1, h2⟩ => ⟨h, h1, h2.symm⟩, fun ⟨h, h1, h2⟩ => ⟨h, h1, h2.symm⟩⟩
      cases j with
      | zero =>
        rw [List.getD_cons_zero, hin]
        simp only [loc]
        cases hl : locH o.2.1 n with
        | some f =>
          have : ¬ n ∉ o.2.1.map (·.1) := fun h => by rw [locH_none.2 h] at hl; cases hl
          simp only [Option.map_some, Int.natCast_zero, Int.add_zero, iff_true]
          exact Decidable.byContradiction this
        | none =>
          have h1 := locH_none.1 hl
          constructor
          · exact fun h => absurd h h1
          · intro h
            exfalso
            obtain ⟨z, hz, he⟩ := Option.map_eq_some_iff.1 h
            have hgo : ∀ (r : List Ob) (a at' : Int) (z : Int × Int), loc r a at' n = some z → a ≤ z.1 := by
              intro r
              induction r with
              | nil => intro a at' z h; cases h
              | cons o r ih =>
                intro a at' z h
                simp only [loc] at h
                split at h
                · cases h; exact Int.le_refl _
                · have := ih _ _ _ h; omega
            have := hgo _ _ _ _ hz
            simp at he; omega
      | succ j =>
        rw [List.getD_cons_succ]
        simp only [loc]
        have hj' : j < r.length := by simpa using hj
        cases hl : locH o.2.1 n with
        | some f =>
          have h1 : n ∈ o.2.1.map (·.1) := Decidable.byContradiction fun h => by rw [locH_none.2 h] at hl; cases hl
          constructor
          · intro h
            exfalso
            rw [hin] at h
            exact hnd.2.2 n h1 n (List.mem_flatMap.2 ⟨_, by rw [List.getD_eq_getElem?_getD, List.getElem?_eq_getElem hj']; exact List.getElem_mem hj', h⟩) rfl
          · intro h
            simp only [Option.map_some, Option.some.injEq] at h
            omega
        | none =>
          rw [ih (a + 1) _ n hnd.2.1 j hj']
          rw [show a + 1 + (j : Int) = a + ((j + 1 : Nat) : Int) by omega]
  have k2 : ∀ n, hasN n (ob L y) = true ↔ (loc L 0 0 n).map (·.1) = some y := fun n => by
    have := key L 0 0 n hG.once y.toNat (by omega)
    rw [Int.toNat_of_nonneg hy.1, Int.zero_add] at this
    exact this
  unfold edge wantsOf
  rw [List.any_eq_true, List.mem_filterMap]
  exact ⟨fun ⟨w, h1, h2⟩ => ⟨w, h1, (k2 _).1 h2⟩, fun ⟨w, h1, h2⟩ => ⟨w, h1, (k2 _).2 h2⟩⟩

theorem wanted_F {L : List Ob} (hG : Good L) (hn : 300 ≤ nf) : ref_Wanted_f nf L = some (if L.length = 0 then 0 else wd (reach nf (nextB L) 0 (-1)), ()) := by
  unfold ref_Wanted_f ref_Wanted_p
  have h5 := hG.len
  obtain ⟨fu', z, ⟨hz1, hz2⟩, e⟩ := loop_inv (n := (L.length : Int)) (F := fun fu t (z : List (List Int)) => ref_Wanted_l0 nf L fu z t) (fun t z => (z.length : Int) = t ∧ ∀ i : Nat, (i : Int) < t → Nodes L.length (z.getD i []) ∧ ∀ y, y ∈ z.getD i [] ↔ (0 ≤ y ∧ y < L.length) ∧ edge (ob L i) (ob L y) = true) (fun fu t z h0 h1 hz => by
    obtain ⟨row, r1, r2, r3⟩ := wanted_l2 (i := t) (g0 := fun next t15 => ref_Wanted_l0 nf L fu next t15) hG ⟨h0, h1⟩ (nx := z) (by omega) hn
    refine ⟨z ++ [row], ?_, by simp; omega, fun i hi => ?_⟩
    · simp only [ref_Wanted_l0, ref_Wanted_b0, h1, decide_true, cond_true, inb_ok h0 h1]
      exact r3
    · by_cases hit : i < z.length
      · have : (z ++ [row]).getD i [] = z.getD i [] := by simp [List.getD_eq_getElem?_getD, List.getElem?_append_left hit]
        rw [this]
        exact hz.2 i (by omega)
      · have hie : i = z.length := by omega
        have : (z ++ [row]).getD i [] = row := by subst hie; simp [List.getD_eq_getElem?_getD]
        rw [this, show ((i : Nat) : Int) = t by omega]
        exact ⟨r1, r2⟩) nf 0 [] (Int.le_refl _) (by omega) (by omega) ⟨rfl, fun i hi => by omega⟩
  simp only
  rw [show ref_Wanted_l0 nf L nf [] 0 = _ from e]
  simp only [ref_Wanted_l0, ref_Wanted_b0, Int.lt_irrefl, decide_false, cond_false]
  by_cases h0 : L.length = 0
  · simp [h0]
  · rw [beq_f (show ¬ (L.length : Int) = 0 by omega), cond_false, if_neg h0]
    have hzl : z.length = L.length := by omega
    have hW : WayOK z := ⟨by omega, fun l hl => by
      obtain ⟨i, hi, rfl⟩ := List.getElem_of_mem hl
      have := (hz2 i (by omega)).1.len
      simp only [List.getD_eq_getElem?_getD, List.getElem?_eq_getElem hi, Option.getD_some] at this
      omega, fun l hl j hj => by
      obtain ⟨i, hi, rfl⟩ := List.getElem_of_mem hl
      have := (hz2 i (by omega)).1.good
      simp only [List.getD_eq_getElem?_getD, List.getElem?_eq_getElem hi, Option.getD_some] at this
      rw [hzl]; exact this j hj⟩
    have hB := nextB_ok hG
    have hBl : (nextB L).length = L.length := by simp [nextB]
    have hi0 : (0 : Int) ≤ 0 ∧ (0 : Int) < z.length := by omega
    have hi1 : (0 : Int) ≤ 0 ∧ (0 : Int) < (nextB L).length := by omega
    rw [reach_F hW (by omega) hi0, Option.bind_some]
    have hN := reach_nodes hW (nf := nf) (wo := -1) hi0
    have hN' := reach_nodes hB (nf := nf) (wo := -1) hi1
    have hr32 : ∀ x ∈ reach nf z 0 (-1), 0 ≤ x ∧ x < 32 := fun x hx => by have := hN.good x hx; omega
    have hr32' : ∀ x ∈ reach nf (nextB L) 0 (-1), 0 ≤ x ∧ x < 32 := fun x hx => by have := hN'.good x hx; omega
    have := hN.len
    rw [set_F _ (by simp [maxLen]; omega) (by omega) hr32, Option.bind_some]
    congr 2
    refine bt_ext (wd_w hr32) (wd_w hr32') fun k _ => ?_
    rw [wd_bt hr32, wd_bt hr32', decide_eq_decide, mem_reach hW (by omega) hi0, mem_reach hB (by omega) hi1]
    have hstep : ∀ x j : Int, 0 ≤ x ∧ x < L.length → (j ∈ nexts z x ↔ j ∈ nexts (nextB L) x) := fun x j hx => by
      rw [nextB_at hx.1 hx.2]
      have := (hz2 x.toNat (by omega)).2 j
      rw [Int.toNat_of_nonneg hx.1] at this
      unfold nexts
      rw [this]
      constructor
      · rintro ⟨hj, hE⟩
        exact (edge_iff hG hx hj).1 hE
      · intro hj
        have hjr : 0 ≤ j ∧ j < L.length := by
          have h9 := hB.good (nexts (nextB L) x) (nexts_mem hx.1 (by omega)) j (by rw [nextB_at hx.1 hx.2]; exact hj)
          omega
        exact ⟨hjr, (edge_iff hG hx hjr).2 hj⟩
    have rng : ∀ (nx : List (List Int)), WayOK nx → nx.length = L.length → ∀ x, Path nx (-1) 0 x → 0 ≤ x ∧ x < L.length := fun nx hnx hl x hp => by
      induction hp with
      | here _ => omega
      | step h1 h2 _ ih => have := hnx.good _ (nexts_mem ih.1 (by omega)) _ h2; omega
    generalize (k : Int) = y
    constructor
    · intro hp
      induction hp with
      | here h => exact .here h
      | step h1 h2 h3 ih => exact .step ih ((hstep _ _ (rng z hW hzl _ h1)).1 h2) h3
    · intro hp
      induction hp with
      | here h => exact .here h
      | step h1 h2 h3 ih => exact .step ih ((hstep _ _ (rng _ hB hBl _ h1)).2 h2) h3

theorem linkNeeds_main (L : List Ob) : law_LinkNeeds_f 300 L = some (true, ()) := by
  unfold law_LinkNeeds_f law_LinkNeeds_p
  rw [needs_F L (Nat.le_refl _), check_F L (Nat.le_refl _)]
  simp only [Option.bind_some]
  by_cases hc : objCode L = 0
  · have hG := good_of hc
    rw [wanted_F hG (Nat.le_refl _)]
    by_cases h0 : L.length = 0
    · simp [hc, h0]
    · simp [hc, h0]
  · simp [hc, bne_t hc]

theorem linkNeeds_law (x : denPs (lawPs [.sl (.pair (.sl (.int .u8)) (.pair (.sl (.pair (.int .i64) (.pair (.int .i64) .unit))) (.pair (.sl (.pair (.int .i64) (.pair (.int .i64) .unit))) .unit)))])) (_ : wfPs [.sl (.pair (.sl (.int .u8)) (.pair (.sl (.pair (.int .i64) (.pair (.int .i64) .unit))) (.pair (.sl (.pair (.int .i64) (.pair (.int .i64) .unit))) .unit)))] x) : ∃ n, law_LinkNeeds_F n x = some (true, ()) := by
  obtain ⟨L, _⟩ := x
  exact ⟨300, linkNeeds_main L⟩
end Go.Proofs.Ytmndifhjmbiodaa
