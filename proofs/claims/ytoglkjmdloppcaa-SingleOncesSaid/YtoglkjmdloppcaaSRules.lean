/- Ways: to which nodes one comes, by which paths, who is on each way to whom, and rule.Rules: the texts Reach Path Dom Rules in one. -/
import Derived.Test.YtoglkjmdloppcaaSNext
namespace Go.Proofs.Ytoglkjmdloppcaa
open Go Go.Ab S

structure WayOK (next : List (List Int)) : Prop where
 pos : 1 ≤ next.length
 few : next.length ≤ 8
 thin : ∀ l ∈ next, l.length ≤ 3
 good : ∀ l ∈ next, ∀ j ∈ l, 0 ≤ j ∧ j < next.length




theorem nodup_len : ∀ (n : Nat) (l : List Int), l.Nodup → (∀ x ∈ l, 0 ≤ x ∧ x < n) → l.length ≤ n
 | 0, [], _, _ => Nat.le_refl _
 | 0, x :: l, _, h => by have := h x (by simp); omega
 | n + 1, l, hn, h => by
  by_cases hm : (n : Int) ∈ l
  ·have h1 := nodup_len n (l.erase n) (hn.erase _) fun x hx => by
    have h2 := h x (List.mem_of_mem_erase hx)
    have h3 : x ≠ n := fun he => by subst he; exact (List.Nodup.not_mem_erase hn) hx
    omega
   rw [List.length_erase_of_mem hm] at h1
   omega
  ·have := nodup_len n l hn fun x hx => by
    have h2 := h x hx
    have h3 : x ≠ n := fun he => by subst he; exact hm hx
    omega
   omega

/-- nodes, each once -/
structure Nodes (n : Nat) (s : List Int) : Prop where
 once : s.Nodup
 good : ∀ x ∈ s, 0 ≤ x ∧ x < n
theorem Nodes.len {n : Nat} {s : List Int} (h : Nodes n s) : s.length ≤ n := nodup_len n s h.once h.good

theorem whas_F {nf : Nat} (l : List Int) (x : Int) (hl : l.length ≤ maxLen) (hf : l.length < nf) : ref_Has_f nf l x = some (decide (x ∈ l), ()) := by
 have h := loop_all (l := l) (d := 0) (F := fun fu t (_ : Unit) => ref_Has_l0 nf l x fu t) (fin := fun _ => some (false, ()))
  (step := fun y _ s k => bif x == y then some (true, ()) else k s) ?_ ?_ nf () hf
 ·show ref_Has_l0 nf l x nf 0 = _
  rw [show ref_Has_l0 nf l x nf 0 = _ from h]
  have key : ∀ (l : List Int) (t : Int), goL (fun y _ (s : Unit) k => bif x == y then some (true, ()) else k s) (fun _ => some (false, ())) l t () = some (decide (x ∈ l), ()) := by
   intro l
   induction l with
   | nil => intro t; rfl
   | cons y r ih =>
    intro t
    simp only [goL, ih]
    by_cases h1 : x = y
    ·simp [h1]
    ·have : (x == y) = false := by simpa using h1
     simp [h1, this]
  exact key l 0
 ·intro fu t s a b
  simp only [ref_Has_l0, ref_Has_b0, inb_ok a b, wrap_step a b hl, b, decide_true, cond_true]
 ·intro fu t s a
  simp [ref_Has_l0, ref_Has_b0, a]

def addN (wo : Int) (s : List Int) (x : Int) : List Int := if x ≠ wo ∧ x ∉ s then s ++ [x] else s
theorem addN_nodes {n : Nat} {wo x : Int} {s : List Int} (h : Nodes n s) (hx : 0 ≤ x ∧ x < n) : Nodes n (addN wo s x) := by
 unfold addN
 split
 ·rename_i hc
  refine ⟨List.nodup_append.2 ⟨h.once, by simp, fun a ha b hb => ?_⟩, fun y hy => ?_⟩
  ·simp only [List.mem_singleton] at hb
   subst hb
   rintro rfl
   exact hc.2 ha
  ·rcases List.mem_append.1 hy with hy | hy
   ·exact h.good y hy
   ·simp only [List.mem_singleton] at hy; subst hy; exact hx
 ·exact h

/-- the word of a list -/
def wd (l : List Int) : Int := l.foldl (fun s x => or32 s (shlI .u32 1 x)) 0
theorem wd_snoc (l : List Int) (x : Int) : wd (l ++ [x]) = or32 (wd l) (shlI .u32 1 x) := by simp [wd, List.foldl_append]
theorem wd_ok_aux : ∀ (l : List Int) (s : Int), W32 s → (∀ x ∈ l, 0 ≤ x ∧ x < 32) → W32 (l.foldl (fun s x => or32 s (shlI .u32 1 x)) s) ∧ ∀ i : Nat, bt (l.foldl (fun s x => or32 s (shlI .u32 1 x)) s) i = (bt s i || decide ((i : Int) ∈ l))
 | [], s, hs, _ => ⟨hs, fun i => by simp⟩
 | x :: l, s, hs, h => by
  have hx := h x (by simp)
  obtain ⟨h1, h2⟩ := wd_ok_aux l (or32 s (shlI .u32 1 x)) (or32_w _ _) fun y hy => h y (by simp [hy])
  refine ⟨h1, fun i => ?_⟩
  rw [List.foldl_cons, h2, or32_bt hs (one_w hx.1 hx.2), one_bt hx.1 hx.2]
  by_cases hi : (i : Int) = x
  ·have h3 : i = x.toNat := by omega
   have h4 : (i : Int) ∈ x :: l := by rw [hi]; simp
   rw [decide_eq_true h3, decide_eq_true h4]
   simp
  ·have h3 : ¬ i = x.toNat := by omega
   simp [hi, h3]
theorem wd_w {l : List Int} (h : ∀ x ∈ l, 0 ≤ x ∧ x < 32) : W32 (wd l) := (wd_ok_aux l 0 W32_zero h).1
theorem wd_bt {l : List Int} (h : ∀ x ∈ l, 0 ≤ x ∧ x < 32) (i : Nat) : bt (wd l) i = decide ((i : Int) ∈ l) := by
 rw [wd, (wd_ok_aux l 0 W32_zero h).2, bt_zero, Bool.false_or]

def nexts (next : List (List Int)) (x : Int) : List Int := next.getD x.toNat []
theorem nexts_mem {next : List (List Int)} {x : Int} (h0 : 0 ≤ x) (h1 : x < next.length) : nexts next x ∈ next := getD_mem h0 h1

def reachGo (next : List (List Int)) (wo : Int) : Nat → List Int → Nat → List Int
 | 0, s, _ => s
 | f + 1, s, k => if k < s.length then reachGo next wo f ((nexts next (s.getD k 0)).foldl (addN wo) s) (k + 1) else s
/-- to which nodes one comes, without one -/
def reach (nf : Nat) (next : List (List Int)) (i wo : Int) : List Int := if i = wo then [] else reachGo next wo nf [i] 0

variable {next : List (List Int)}

theorem round_nodes (hW : WayOK next) {wo x : Int} (hx : 0 ≤ x ∧ x < next.length) {s : List Int} (hs : Nodes next.length s) : Nodes next.length ((nexts next x).foldl (addN wo) s) :=
 foldl_inv (Nodes next.length) _ s hs fun y hy _ h => addN_nodes h (hW.good _ (nexts_mem hx.1 hx.2) y hy)

theorem ble_lim {n : Nat} (h : n ≤ 9) : Nat.ble n lim = true := by
 rw [Nat.ble_eq]; exact Nat.le_trans h (by decide)

theorem reach_l2 (hW : WayOK next) {nf : Nat} (hn : 12 ≤ nf) {wo : Int} {k : Nat} {s : List Int} (hs : Nodes next.length s) (hk : k < s.length) (g : List Int → Int → Option (List Int × Unit)) :
  ref_Reach_l2 nf next wo k s g nf s 0 = g ((nexts next (s.getD k 0)).foldl (addN wo) s) ((k : Int) + 1) := by
 have hx : 0 ≤ s.getD k 0 ∧ s.getD k 0 < next.length := by
  rw [List.getD_eq_getElem?_getD, List.getElem?_eq_getElem hk]
  exact hs.good _ (List.getElem_mem hk)
 have hthin := hW.thin _ (nexts_mem hx.1 hx.2)
 have hgood := hW.good _ (nexts_mem hx.1 hx.2)
 have hl : (nexts next (s.getD k 0)).length ≤ maxLen := Nat.le_trans hthin (by decide)
 have hlen := hs.len
 have hfew := hW.few
 have h := loop_all (l := nexts next (s.getD k 0)) (d := 0) (F := fun fu t (s' : List Int) => ref_Reach_l2 nf next wo k s g fu s' t) (fin := fun s => g s ((k : Int) + 1))
  (step := fun x _ s k => bif x != wo then Option.bind (ref_Has_f nf s x) fun r => bif !r.fst then (bif bimp false ![x].isEmpty && (s.length + [x].length).ble lim then k (s ++ [x]) else none) else k s else k s) ?_ ?_ nf s (by omega)
 ·rw [show ref_Reach_l2 nf next wo k s g nf s 0 = _ from h]
  refine goL_fold (Nodes next.length) _ 0 s hs fun x hx t s' k' hs' => ⟨?_, addN_nodes hs' (hgood x hx)⟩
  have := hs'.len
  rw [whas_F s' x (by simp [maxLen]; omega) (by omega)]
  unfold addN
  by_cases h1 : x = wo
  ·simp [h1]
  ·by_cases h2 : x ∈ s'
   ·simp [h2]
   ·have hb := ble_lim (n := s'.length + 1) (by omega)
    simp [h1, bne_t h1, h2, bimp, hb]
 ·intro fu t s' a b
  simp only [ref_Reach_l2, ref_Reach_b2]
  simp only [nexts] at hl a b ⊢
  simp only [Int.toNat_natCast, inb_ok a b, wrap_step a b hl, b, decide_true, cond_true]
 ·intro fu t s' a
  have hk1 : IntKind.i64.wrap ((k : Int) + 1) = (k : Int) + 1 := Go.IntWalk.i64_in _ (by have := hs.len; have := hW.few; omega)
  simp only [ref_Reach_l2, ref_Reach_b2]
  simp only [nexts] at a ⊢
  simp [a, hk1]

theorem addN_len (wo : Int) (s : List Int) (x : Int) : s.length ≤ (addN wo s x).length := by
 unfold addN; split <;> simp
theorem addN_grow (wo : Int) : ∀ (l s : List Int), s.length ≤ (l.foldl (addN wo) s).length
 | [], _ => Nat.le_refl _
 | x :: l, s => Nat.le_trans (addN_len wo s x) (addN_grow wo l _)

theorem nodes_at {n : Nat} {s : List Int} (hs : Nodes n s) {k : Nat} (hk : k < s.length) : 0 ≤ s.getD k 0 ∧ s.getD k 0 < n := by
 rw [List.getD_eq_getElem?_getD, List.getElem?_eq_getElem hk]
 exact hs.good _ (List.getElem_mem hk)

theorem reach_l0 (hW : WayOK next) {nf : Nat} (hn : 12 ≤ nf) {wo : Int} : ∀ (fu k : Nat) (s : List Int), Nodes next.length s → k ≤ s.length → next.length + 1 ≤ k + fu → ref_Reach_l0 nf next wo fu s k = some (reachGo next wo fu s k, ())
 | 0, k, s, hs, hk, h => by have := hs.len; omega
 | fu + 1, k, s, hs, hk, h => by
  simp only [ref_Reach_l0, ref_Reach_b0, reachGo]
  by_cases h1 : k < s.length
  ·have hx := nodes_at hs h1
   have h2 : ((k : Int) < (s.length : Int)) := by omega
   rw [if_pos h1, inb_ok (by omega) h2]
   simp only [h2, decide_true, cond_true, Int.toNat_natCast, inb_ok hx.1 hx.2]
   rw [reach_l2 hW hn hs h1]
   have := reach_l0 (wo := wo) hW hn fu (k + 1) _ (round_nodes (wo := wo) hW hx hs) (Nat.le_trans h1 (addN_grow _ _ _)) (by omega)
   simpa using this
  ·have h2 : ¬ ((k : Int) < (s.length : Int)) := by omega
   rw [if_neg h1]
   simp [h2]

theorem one_nodes {i : Int} {n : Nat} (hi : 0 ≤ i ∧ i < n) : Nodes n [i] := ⟨by simp, fun x hx => by simp only [List.mem_singleton] at hx; subst hx; exact hi⟩

theorem reach_F (hW : WayOK next) {nf : Nat} (hn : 12 ≤ nf) {i wo : Int} (hi : 0 ≤ i ∧ i < next.length) : ref_Reach_f nf next i wo = some (reach nf next i wo, ()) := by
 simp only [ref_Reach_f, ref_Reach_p, reach]
 by_cases h : i = wo
 ·simp [h]
 ·have h1 : (i == wo) = false := by simpa using h
  have := hW.few
  rw [h1, if_neg h]
  exact reach_l0 hW hn nf 0 [i] (one_nodes hi) (by simp) (by omega)

theorem from_l2 (hW : WayOK next) {nf : Nat} (hn : 12 ≤ nf) {wo : Int} {k : Nat} {s : List Int} (hs : Nodes next.length s) (hk : k < s.length) (g : Int → List Int → Option (Int × Unit)) :
  way_From_l2 nf next wo (s.drop k) g nf (wd s) (s.drop k) 0 = g (wd ((nexts next (s.getD k 0)).foldl (addN wo) s)) (((nexts next (s.getD k 0)).foldl (addN wo) s).drop (k + 1)) := by
 have hx := nodes_at hs hk
 have hthin := hW.thin _ (nexts_mem hx.1 hx.2)
 have hgood := hW.good _ (nexts_mem hx.1 hx.2)
 have hl : (nexts next (s.getD k 0)).length ≤ maxLen := Nat.le_trans hthin (by decide)
 have hlen := hs.len
 have hfew := hW.few
 have hhead : (s.drop k).getD 0 0 = s.getD k 0 := by simp [List.getD_eq_getElem?_getD]
 have h := loop_all (l := nexts next (s.getD k 0)) (d := 0) (F := fun fu t (p : Int × List Int) => way_From_l2 nf next wo (s.drop k) g fu p.1 p.2 t)
  (fin := fun p => bif decide (0 ≤ 1) && decide (1 ≤ (p.2.length : Int)) && decide ((p.2.length : Int) ≤ (p.2.length : Int)) then g p.1 (List.take ((p.2.length : Int) - 1).toNat (List.drop 1 p.2)) else none)
  (step := fun x _ p k => bif x != wo then bif decide (0 ≤ x) then bif and32 (shrI .u32 p.1 x) 1 == 0 then bif decide (0 ≤ x) then bif bimp false ![x].isEmpty && (p.2.length + [x].length).ble lim then k (or32 p.1 (shlI .u32 1 x), p.2 ++ [x]) else none else none else k p else none else k p) ?_ ?_ nf (wd s, s.drop k) (by omega)
 ·rw [show way_From_l2 nf next wo (s.drop k) g nf (wd s) (s.drop k) 0 = _ from h]
  have hsim : ∀ x ∈ nexts next (s.getD k 0), ∀ (t : Int) (p : Int × List Int) (s' : List Int), (p = (wd s', s'.drop k) ∧ Nodes next.length s' ∧ k < s'.length) →
    ∃ p', (∀ k' : Int × List Int → Option (Int × Unit), (fun x _ p k => bif x != wo then bif decide (0 ≤ x) then bif and32 (shrI .u32 p.1 x) 1 == 0 then bif decide (0 ≤ x) then bif bimp false ![x].isEmpty && (p.2.length + [x].length).ble lim then k (or32 p.1 (shlI .u32 1 x), p.2 ++ [x]) else none else none else k p else none else k p) x t p k' = k' p') ∧ (p' = (wd (addN wo s' x), (addN wo s' x).drop k) ∧ Nodes next.length (addN wo s' x) ∧ k < (addN wo s' x).length) := by
   intro x hx t p s' hp
   obtain ⟨h1, h2, h3⟩ := hp
   subst h1
   have hx' := hgood x hx
   have hlen' := h2.len
   have hw := wd_w (l := s') fun y hy => by have := h2.good y hy; omega
   refine ⟨(wd (addN wo s' x), (addN wo s' x).drop k), fun k' => ?_, rfl, addN_nodes h2 hx', Nat.lt_of_lt_of_le h3 (addN_len _ _ _)⟩
   dsimp only
   rw [shr_and_beq0 hw hx'.1 (by omega), wd_bt fun y hy => by have := h2.good y hy; omega]
   rw [show ((x.toNat : Nat) : Int) = x by omega]
   unfold addN
   by_cases h4 : x = wo
   ·simp [h4]
   ·by_cases h5 : x ∈ s'
    ·simp [h5, hx'.1]
    ·have hb := ble_lim (n := s'.length - k + 1) (by omega)
     simp [h4, bne_t h4, h5, hx'.1, bimp, hb, wd_snoc, List.drop_append_of_le_length (show k ≤ s'.length by omega)]
  obtain ⟨p, ⟨h1, h2, h3⟩, h4⟩ := goL_sim (f := addN wo) (fin := fun p : Int × List Int => bif decide (0 ≤ 1) && decide (1 ≤ (p.2.length : Int)) && decide ((p.2.length : Int) ≤ (p.2.length : Int)) then g p.1 (List.take ((p.2.length : Int) - 1).toNat (List.drop 1 p.2)) else none)
   (fun (p : Int × List Int) s' => p = (wd s', s'.drop k) ∧ Nodes next.length s' ∧ k < s'.length) (nexts next (s.getD k 0)) 0 (wd s, s.drop k) s ⟨rfl, hs, hk⟩ (step := fun x _ p k => bif x != wo then bif decide (0 ≤ x) then bif and32 (shrI .u32 p.1 x) 1 == 0 then bif decide (0 ≤ x) then bif bimp false ![x].isEmpty && (p.2.length + [x].length).ble lim then k (or32 p.1 (shlI .u32 1 x), p.2 ++ [x]) else none else none else k p else none else k p) hsim
  rw [h4, h1]
  generalize (nexts next (s.getD k 0)).foldl (addN wo) s = S at h3 ⊢
  have e1 : List.take (((S.drop k).length : Int) - 1).toNat ((S.drop k).drop 1) = S.drop (k + 1) := by
   rw [List.take_of_length_le, List.drop_drop]
   rw [List.drop_drop, List.length_drop, List.length_drop]
   omega
  have h5 : (1 : Int) ≤ ((S.drop k).length : Int) := by rw [List.length_drop]; omega
  have e2 : (decide ((0 : Int) ≤ 1) && decide (1 ≤ ((S.drop k).length : Int)) && decide (((S.drop k).length : Int) ≤ ((S.drop k).length : Int))) = true := by
   rw [decide_eq_true h5, decide_eq_true (Int.le_refl ((S.drop k).length : Int))]; rfl
  show (bif (decide ((0 : Int) ≤ 1) && decide (1 ≤ ((S.drop k).length : Int)) && decide (((S.drop k).length : Int) ≤ ((S.drop k).length : Int))) then g (wd S) (List.take (((S.drop k).length : Int) - 1).toNat ((S.drop k).drop 1)) else none) = _
  rw [e1, e2]
  rfl
 ·intro fu t p a b
  simp only [way_From_l2, way_From_b2, hhead]
  simp only [nexts] at hl a b ⊢
  simp only [inb_ok a b, wrap_step a b hl, b, decide_true, cond_true]
  rfl
 ·intro fu t p a
  simp only [way_From_l2, way_From_b2, hhead]
  simp only [nexts] at a ⊢
  simp [a]

theorem from_l0 (hW : WayOK next) {nf : Nat} (hn : 12 ≤ nf) {wo : Int} : ∀ (fu k : Nat) (s : List Int), Nodes next.length s → k ≤ s.length → next.length + 1 ≤ k + fu → way_From_l0 nf next wo fu (wd s) (s.drop k) = some (wd (reachGo next wo fu s k), ())
 | 0, k, s, hs, hk, h => by have := hs.len; omega
 | fu + 1, k, s, hs, hk, h => by
  simp only [way_From_l0, way_From_b0, reachGo]
  have hhead : (s.drop k).getD 0 0 = s.getD k 0 := by simp [List.getD_eq_getElem?_getD]
  by_cases h1 : k < s.length
  ·have hx := nodes_at hs h1
   have h2 : 0 < (s.drop k).length := by rw [List.length_drop]; omega
   rw [if_pos h1, hhead, inb_ok hx.1 hx.2, inb_ok (Int.le_refl 0) (by omega)]
   have h3 : ((s.drop k).length : Int) > 0 := by omega
   simp only [h3, decide_true, cond_true]
   rw [from_l2 hW hn hs h1]
   exact from_l0 hW hn fu (k + 1) _ (round_nodes (wo := wo) hW hx hs) (Nat.le_trans h1 (addN_grow _ _ _)) (by omega)
  ·have h2 : ¬ ((s.drop k).length : Int) > 0 := by rw [List.length_drop]; omega
   rw [if_neg h1]
   simp only [h2, decide_false, cond_false]

theorem wfrom_F (hW : WayOK next) {nf : Nat} (hn : 12 ≤ nf) {i wo : Int} (hi : 0 ≤ i ∧ i < next.length) : way_From_f nf next i wo = some (wd (reach nf next i wo), ()) := by
 simp only [way_From_f, way_From_p, reach]
 by_cases h : i = wo
 ·simp [h, wd]
 ·have h1 : (i == wo) = false := by simpa using h
  have := hW.few
  rw [h1, if_neg h]
  simp only [cond_false, hi.1, decide_true, cond_true]
  have h2 : wd [i] = shlI .u32 1 i := by
   have hb := one_w hi.1 (show i < 32 by omega)
   refine bt_ext (wd_w fun x hx => ?_) hb fun j _ => ?_
   ·simp only [List.mem_singleton] at hx; subst hx; omega
   ·rw [wd_bt fun x hx => by simp only [List.mem_singleton] at hx; subst hx; omega]
    rw [one_bt hi.1 (by omega)]
    simp only [List.mem_singleton, decide_eq_decide]
    omega
  rw [← h2]
  exact from_l0 hW hn nf 0 [i] (one_nodes hi) (by simp) (by omega)



theorem reachGo_nodes {next : List (List Int)} (hW : WayOK next) {wo : Int} : ∀ (f k : Nat) (s : List Int), Nodes next.length s → Nodes next.length (reachGo next wo f s k)
 | 0, _, _, h => h
 | f + 1, k, s, h => by
  simp only [reachGo]
  split
  ·rename_i hk
   exact reachGo_nodes hW f _ _ (round_nodes hW (nodes_at h hk) h)
  ·exact h
theorem reach_nodes {next : List (List Int)} (hW : WayOK next) {nf : Nat} {i wo : Int} (hi : 0 ≤ i ∧ i < next.length) : Nodes next.length (reach nf next i wo) := by
 unfold reach
 split
 ·exact ⟨List.nodup_nil, fun x hx => by cases hx⟩
 ·exact reachGo_nodes hW nf 0 [i] (one_nodes hi)

/-- a path from i, without wo -/
inductive Path (next : List (List Int)) (wo i : Int) : Int → Prop where
 | here : i ≠ wo → Path next wo i i
 | step {x j : Int} : Path next wo i x → j ∈ nexts next x → j ≠ wo → Path next wo i j

theorem addN_mem {wo : Int} : ∀ (l s : List Int) (y : Int), y ∈ l.foldl (addN wo) s ↔ y ∈ s ∨ (y ∈ l ∧ y ≠ wo)
 | [], s, y => by simp
 | x :: l, s, y => by
  rw [List.foldl_cons, addN_mem l]
  unfold addN
  split
  ·rename_i h
   simp only [List.mem_append, List.mem_cons, List.not_mem_nil, or_false]
   constructor
   ·rintro ((h1 | h1) | h1)
    ·exact .inl h1
    ·exact .inr ⟨.inl h1, h1 ▸ h.1⟩
    ·exact .inr ⟨.inr h1.1, h1.2⟩
   ·rintro (h1 | ⟨h1 | h1, h2⟩)
    ·exact .inl (.inl h1)
    ·exact .inl (.inr h1)
    ·exact .inr ⟨h1, h2⟩
  ·rename_i h
   simp only [List.mem_cons]
   constructor
   ·rintro (h1 | h1)
    ·exact .inl h1
    ·exact .inr ⟨.inr h1.1, h1.2⟩
   ·rintro (h1 | ⟨h1 | h1, h2⟩)
    ·exact .inl h1
    ·subst h1
     refine .inl ?_
     by_cases h3 : y ∈ s
     ·exact h3
     ·exact absurd ⟨h2, h3⟩ h
    ·exact .inr ⟨h1, h2⟩

theorem addN_pre {wo : Int} : ∀ (l s : List Int), ∃ r, l.foldl (addN wo) s = s ++ r
 | [], s => ⟨[], by simp⟩
 | x :: l, s => by
  rw [List.foldl_cons]
  obtain ⟨r, hr⟩ := addN_pre l (addN wo s x)
  rw [hr]
  unfold addN
  split
  ·exact ⟨x :: r, by simp⟩
  ·exact ⟨r, rfl⟩

variable {next : List (List Int)}

theorem reachGo_path {wo i : Int} : ∀ (f k : Nat) (s : List Int), (∀ y ∈ s, Path next wo i y) → ∀ y ∈ reachGo next wo f s k, Path next wo i y
 | 0, _, _, h => h
 | f + 1, k, s, h => by
  simp only [reachGo]
  split
  ·rename_i hk
   refine reachGo_path f _ _ fun y hy => ?_
   rcases (addN_mem _ _ _).1 hy with h1 | ⟨h1, h2⟩
   ·exact h y h1
   ·refine .step (h (s.getD k 0) ?_) h1 h2
    rw [List.getD_eq_getElem?_getD, List.getElem?_eq_getElem hk]
    exact List.getElem_mem hk
  ·exact h

theorem reachGo_closed (hW : WayOK next) {wo : Int} : ∀ (f k : Nat) (s : List Int), Nodes next.length s → k ≤ s.length → next.length + 1 ≤ k + f → (∀ m, m < k → ∀ j ∈ nexts next (s.getD m 0), j ≠ wo → j ∈ s) →
  (∀ y ∈ s, y ∈ reachGo next wo f s k) ∧ ∀ x ∈ reachGo next wo f s k, ∀ j ∈ nexts next x, j ≠ wo → j ∈ reachGo next wo f s k
 | 0, k, s, hs, hk, h, _ => by have := hs.len; omega
 | f + 1, k, s, hs, hk, h, hc => by
  simp only [reachGo]
  split
  ·rename_i h1
   have hx := nodes_at hs h1
   obtain ⟨r, hr⟩ := addN_pre (wo := wo) (nexts next (s.getD k 0)) s
   obtain ⟨h2, h3⟩ := reachGo_closed hW f (k + 1) _ (round_nodes (wo := wo) hW hx hs) (Nat.le_trans h1 (addN_grow _ _ _)) (by omega) fun m hm j hj hjw => by
    have e : ((nexts next (s.getD k 0)).foldl (addN wo) s).getD m 0 = s.getD m 0 := by
     rw [hr]
     simp only [List.getD_eq_getElem?_getD]
     rw [List.getElem?_append_left (by omega)]
    rw [e] at hj
    refine (addN_mem _ _ _).2 ?_
    by_cases hmk : m = k
    ·subst hmk; exact .inr ⟨hj, hjw⟩
    ·exact .inl (hc m (by omega) j hj hjw)
   exact ⟨fun y hy => h2 y ((addN_mem _ _ _).2 (.inl hy)), h3⟩
  ·rename_i h1
   refine ⟨fun y hy => hy, fun x hx j hj hjw => ?_⟩
   obtain ⟨m, hm, rfl⟩ := List.mem_iff_getElem.1 hx
   refine hc m (by omega) j ?_ hjw
   rw [List.getD_eq_getElem?_getD, List.getElem?_eq_getElem hm]
   exact hj

theorem mem_reach (hW : WayOK next) {nf : Nat} (hn : 12 ≤ nf) {i wo : Int} (hi : 0 ≤ i ∧ i < next.length) (j : Int) : j ∈ reach nf next i wo ↔ Path next wo i j := by
 unfold reach
 by_cases h : i = wo
 ·rw [if_pos h]
  constructor
  ·intro h; cases h
  ·intro hp
   exfalso
   induction hp with
   | here h1 => exact h1 h
   | step _ _ _ ih => exact ih
 ·rw [if_neg h]
  have hf := hW.few
  obtain ⟨h1, h2⟩ := reachGo_closed hW (wo := wo) nf 0 [i] (one_nodes hi) (by simp) (by omega) (fun m hm => absurd hm (Nat.not_lt_zero m))
  constructor
  ·exact reachGo_path nf 0 [i] (fun y hy => by simp only [List.mem_singleton] at hy; subst hy; exact .here h) j
  ·intro hp
   induction hp with
   | here _ => exact h1 _ (by simp)
   | step _ h3 h4 ih => exact h2 _ ih _ h3 h4



variable {next : List (List Int)} {nf : Nat}

/-- one comes to j from the first node -/
def Come (next : List (List Int)) (j : Int) : Prop := Path next (-1) 0 j
/-- i is on each way to j -/
def Dom (next : List (List Int)) (i j : Int) : Prop := Come next i ∧ Come next j ∧ ¬ Path next i 0 j

theorem path_good (hW : WayOK next) {wo i j : Int} (hi : 0 ≤ i ∧ i < next.length) (h : Path next wo i j) : 0 ≤ j ∧ j < next.length := by
 induction h with
 | here _ => exact hi
 | step _ h2 _ ih => exact hW.good _ (nexts_mem ih.1 ih.2) _ h2
theorem path_come (hW : WayOK next) {wo i j : Int} (hi : 0 ≤ i ∧ i < next.length) (h : Path next wo i j) : Path next (-1) i j := by
 induction h with
 | here _ => exact .here (by omega)
 | step h1 h2 _ ih => exact .step ih h2 (by have := hW.good _ (nexts_mem (path_good hW hi h1).1 (path_good hW hi h1).2) _ h2; omega)
theorem zero_good (hW : WayOK next) : (0 : Int) ≤ 0 ∧ (0 : Int) < next.length := ⟨Int.le_refl _, by have := hW.pos; omega⟩
theorem come_good (hW : WayOK next) {j : Int} (h : Come next j) : 0 ≤ j ∧ j < next.length := path_good hW (zero_good hW) h
theorem come_zero : Come next 0 := .here (by decide)
theorem come_next (hW : WayOK next) {i j : Int} (h : Come next i) (hj : j ∈ nexts next i) : Come next j :=
 .step h hj (by have := hW.good _ (nexts_mem (come_good hW h).1 (come_good hW h).2) _ hj; omega)
theorem no_path {i j : Int} : ¬ Path next i i j := fun h => by
 induction h with
 | here h => exact h rfl
 | step _ _ _ ih => exact ih
theorem dom_zero {j : Int} (hj : Come next j) : Dom next 0 j := ⟨come_zero, hj, no_path⟩
theorem no_dom {i j : Int} (h : Path next i 0 j) : j ≠ i := by
 cases h with
 | here h => exact h
 | step _ _ h => exact h
theorem dom_self {j : Int} (hj : Come next j) : Dom next j j := ⟨hj, hj, fun h => no_dom h rfl⟩
theorem dom_back {k i j : Int} (hi : Come next i) (hj : j ∈ nexts next i) (h : Dom next k j) : Dom next k i ∨ k = j := by
 by_cases hk : j = k
 ·exact .inr hk.symm
 ·exact .inl ⟨h.1, hi, fun hp => h.2.2 (.step hp hj hk)⟩

theorem reachw (hW : WayOK next) {i wo : Int} (hi : 0 ≤ i ∧ i < next.length) (k : Nat) : W32 (wd (reach nf next i wo)) ∧ bt (wd (reach nf next i wo)) k = decide ((k : Int) ∈ reach nf next i wo) := by
 have hN := reach_nodes (nf := nf) (wo := wo) hW hi
 have h8 := hW.few
 have : ∀ x ∈ reach nf next i wo, 0 ≤ x ∧ x < 32 := fun x hx => by have := hN.good x hx; omega
 exact ⟨wd_w this, wd_bt this k⟩

/-- what is so of the words all the time -/
structure RI (next : List (List Int)) (r : List Int) : Prop where
 len : r.length = next.length
 w : ∀ j : Int, 0 ≤ j → j < next.length → W32 (r.getD j.toNat 0)
 out : ∀ j : Int, 0 ≤ j → j < next.length → ¬ Come next j → r.getD j.toNat 0 = 0
 come : ∀ j : Int, 0 ≤ j → j < next.length → ∀ k : Nat, bt (r.getD j.toNat 0) k = true → Come next k
 dom : ∀ j : Int, 0 ≤ j → j < next.length → ∀ k : Nat, Dom next k j → bt (r.getD j.toNat 0) k = true
 zero : r.getD 0 0 = 1

/-- the word of j by an edge from i -/
def less (r : List Int) (i j : Int) : Int := and32 (r.getD j.toNat 0) (or32 (r.getD i.toNat 0) (shlI .u32 1 j))

theorem less_bt {r : List Int} (h : RI next r) (hW : WayOK next) {i j : Int} (hi : 0 ≤ i ∧ i < next.length) (hj : 0 ≤ j ∧ j < next.length) (k : Nat) :
  bt (less r i j) k = (bt (r.getD j.toNat 0) k && (bt (r.getD i.toNat 0) k || decide (k = j.toNat))) := by
 have := hW.few
 unfold less
 rw [and32_bt (h.w j hj.1 hj.2) (or32_w _ _), or32_bt (h.w i hi.1 hi.2) (one_w hj.1 (by omega)), one_bt hj.1 (by omega)]

theorem RI.step {r : List Int} (h : RI next r) (hW : WayOK next) {i j : Int} (hc : Come next i) (hj : j ∈ nexts next i) : RI next (r.set j.toNat (less r i j)) := by
 have hi := come_good hW hc
 have hjc := come_next hW hc hj
 have hjr := come_good hW hjc
 have hl := h.len
 have hg : ∀ y : Nat, (r.set j.toNat (less r i j)).getD y 0 = if y = j.toNat then less r i j else r.getD y 0 := fun y => getD_upd (by omega) y
 refine ⟨by simp [hl], fun x a b => ?_, fun x a b hx => ?_, fun x a b k hk => ?_, fun x a b k hk => ?_, ?_⟩
 ·rw [hg]; split
  ·exact and32_w _ _
  ·exact h.w x a b
 ·rw [hg]; split
  ·exact absurd (show Come next x by rw [show x = j by omega]; exact hjc) hx
  ·exact h.out x a b hx
 ·rw [hg] at hk
  split at hk
  ·rw [less_bt h hW hi hjr, Bool.and_eq_true] at hk
   exact h.come j hjr.1 hjr.2 k hk.1
  ·exact h.come x a b k hk
 ·rw [hg]
  split
  ·have hxj : x = j := by omega
   subst hxj
   rw [less_bt h hW hi hjr, h.dom x a b k hk, Bool.true_and]
   rcases dom_back hc hj hk with h1 | h1
   ·rw [h.dom i hi.1 hi.2 k h1]; rfl
   ·rw [decide_eq_true (show k = x.toNat by omega), Bool.or_true]
  ·exact h.dom x a b k hk
 ·rw [hg]
  split
  ·rename_i h0
   have hj0 : j = 0 := by omega
   subst hj0
   have hz := zero_good hW
   refine bt_ext (and32_w _ _) W32_one fun k _ => ?_
   rw [less_bt h hW hi hz, show ((0 : Int).toNat) = 0 from rfl, h.zero, bt_one]
   cases decide (k = 0) <;> simp
  ·exact h.zero

/-- nothing is left to do at the edge -/
def Done (r : List Int) (i j : Int) : Prop := less r i j = r.getD j.toNat 0

theorem RI.fin {r : List Int} (h : RI next r) (hW : WayOK next) (hd : ∀ i, Come next i → ∀ j ∈ nexts next i, Done r i j) (j : Int) (hj : 0 ≤ j ∧ j < next.length) (k : Nat) : bt (r.getD j.toNat 0) k = true ↔ Dom next k j := by
 constructor
 ·intro hb
  have hjc : Come next j := by
   apply Classical.byContradiction
   intro hn
   rw [h.out j hj.1 hj.2 hn, bt_zero] at hb
   cases hb
  refine ⟨h.come j hj.1 hj.2 k hb, hjc, fun hp => ?_⟩
  have key : ∀ x, Path next k 0 x → bt (r.getD x.toNat 0) k = true → False := by
   intro x hx
   induction hx with
   | here h0 =>
    intro hb
    rw [show ((0 : Int).toNat) = 0 from rfl, h.zero, bt_one] at hb
    have : k = 0 := by simpa using hb
    exact h0 (by omega)
   | @step x y h1 h2 h3 ih =>
    intro hb
    have hxc : Come next x := path_come hW (zero_good hW) h1
    have hy := come_good hW (come_next hW hxc h2)
    have := hd x hxc y h2
    unfold Done at this
    rw [← this, less_bt h hW (come_good hW hxc) hy, Bool.and_eq_true, Bool.or_eq_true] at hb
    rcases hb.2 with hb | hb
    ·exact ih hb
    ·have : k = y.toNat := by simpa using hb
     exact h3 (by omega)
  exact key j hp hb
 ·exact h.dom j hj.1 hj.2 k

/-- how much is left -/
def total (r : List Int) : Nat := (r.map Int.toNat).sum
theorem total_set : ∀ {r : List Int} {j : Nat} {x : Int}, j < r.length → total (r.set j x) + (r.getD j 0).toNat = total r + x.toNat
 | a :: r, 0, x, _ => by simp only [total, List.set_cons_zero, List.map_cons, List.sum_cons, List.getD_cons_zero]; omega
 | a :: r, j + 1, x, h => by
  have ih := total_set (r := r) (j := j) (x := x) (by simpa using h)
  simp only [total, List.set_cons_succ, List.map_cons, List.sum_cons, List.getD_cons_succ] at ih ⊢
  omega
theorem and32_le {x y : Int} (hx : W32 x) (hy : W32 y) : (and32 x y).toNat ≤ x.toNat := by
 rw [and32_eq, Int.toNat_natCast, BitVec.toNat_and, ofInt_nat hx, ofInt_nat hy]
 exact Nat.and_le_left
theorem less_total {r : List Int} (h : RI next r) {i j : Int} (hi : 0 ≤ i ∧ i < next.length) (hj : 0 ≤ j ∧ j < next.length) (hd : ¬ Done r i j) : total (r.set j.toNat (less r i j)) < total r := by
 have hl := h.len
 have h1 := total_set (r := r) (j := j.toNat) (x := less r i j) (by omega)
 have h2 := and32_le (h.w j hj.1 hj.2) (or32_w (r.getD i.toNat 0) (shlI .u32 1 j))
 have h3 : less r i j ≠ r.getD j.toNat 0 := hd
 have h4 := (and32_w (r.getD j.toNat 0) (or32 (r.getD i.toNat 0) (shlI .u32 1 j))).1
 have h5 := (h.w j hj.1 hj.2).1
 unfold less at *
 omega
theorem total_le : ∀ {r : List Int}, (∀ x ∈ r, W32 x) → total r ≤ r.length * 4294967296
 | [], _ => by simp [total]
 | a :: r, h => by
  have ih := total_le (r := r) fun x hx => h x (by simp [hx])
  have := h a (by simp)
  simp only [total, List.map_cons, List.sum_cons, List.length_cons] at ih ⊢
  unfold W32 at this
  omega



variable {next : List (List Int)} {nf : Nat}

/-- the rounds so far: what is done (P) was done already, or something has changed -/
structure Rd (next : List (List Int)) (base : List Int) (P : Int → Int → Prop) (r : List Int) (m : Bool) : Prop where
 ri : RI next r
 no : m = false → r = base ∧ ∀ i j, P i j → Done base i j
 yes : m = true → total r < total base

theorem Rd.done {base : List Int} {P P' : Int → Int → Prop} {r : List Int} {m : Bool} (h : Rd next base P r m) {i j : Int} (hd : Done r i j) (hP : ∀ a b, P' a b → P a b ∨ (a = i ∧ b = j)) : Rd next base P' r m := by
 refine ⟨h.ri, fun hm => ?_, h.yes⟩
 obtain ⟨h1, h2⟩ := h.no hm
 refine ⟨h1, fun a b hab => ?_⟩
 rcases hP a b hab with h3 | ⟨rfl, rfl⟩
 ·exact h2 a b h3
 ·rw [← h1]; exact hd
theorem Rd.more {base : List Int} {P P' : Int → Int → Prop} {r : List Int} {m : Bool} (h : Rd next base P r m) (hW : WayOK next) {i j : Int} (hc : Come next i) (hj : j ∈ nexts next i) (hd : ¬ Done r i j) : Rd next base P' (r.set j.toNat (less r i j)) true := by
 refine ⟨h.ri.step hW hc hj, fun hm => by (cases hm), fun _ => ?_⟩
 have h1 := less_total h.ri (come_good hW hc) (come_good hW (come_next hW hc hj)) hd
 cases hm : m with
 | false => rw [← (h.no hm).1]; exact h1
 | true => exact Nat.lt_trans h1 (h.yes hm)
theorem Rd.weak {base : List Int} {P P' : Int → Int → Prop} {r : List Int} {m : Bool} (h : Rd next base P r m) (hP : ∀ a b, P' a b → P a b) : Rd next base P' r m :=
 ⟨h.ri, fun hm => ⟨(h.no hm).1, fun a b hab => (h.no hm).2 a b (hP a b hab)⟩, h.yes⟩

/-- the edges before node t, and the first k of t -/
def Upto (next : List (List Int)) (t : Int) (k : Nat) (i j : Int) : Prop := Come next i ∧ ((i < t ∧ j ∈ nexts next i) ∨ (i = t ∧ j ∈ (nexts next t).take k))

theorem rules_l6 (hW : WayOK next) (hn : 12 ≤ nf) {w0 : Int × Unit} {t : Int} (hc : Come next t) {base r : List Int} {m : Bool} (h : Rd next base (Upto next t 0) r m) (g4 : List Int → Bool → Int → Option (List Int × Unit)) (g2 : List Int → Bool → Option (List Int × Unit)) :
  ∃ r' m', Rd next base (Upto next (t + 1) 0) r' m' ∧ rule_Rules_l6 nf next w0 t g4 g2 nf r m 0 = g4 r' m' (t + 1) := by
 have ht := come_good hW hc
 have h8 := hW.few
 have hmem : nexts next t ∈ next := nexts_mem ht.1 ht.2
 have hthin := hW.thin _ hmem
 have hgood := hW.good _ hmem
 have hlen : (nexts next t).length ≤ maxLen := Nat.le_trans hthin (by decide)
 have key := loop_inv (n := (nexts next t).length) (F := fun fu k (q : List Int × Bool) => rule_Rules_l6 nf next w0 t g4 g2 fu q.1 q.2 k)
  (fun k q => Rd next base (Upto next t k.toNat) q.1 q.2) ?_ nf 0 (r, m) (Int.le_refl _) (by omega) (by omega) h
 ·obtain ⟨fu', ⟨r', m'⟩, h1, h5⟩ := key
  refine ⟨r', m', h1.weak fun a b hab => ⟨hab.1, ?_⟩, ?_⟩
  ·rcases hab.2 with ⟨h2, h3⟩ | ⟨h2, h3⟩
   ·by_cases hat : a = t
    ·subst hat; refine .inr ⟨rfl, ?_⟩; rw [Int.toNat_natCast, List.take_length]; exact h3
    ·exact .inl ⟨by omega, h3⟩
   ·simp at h3
  ·rw [h5, rule_Rules_l6, rule_Rules_b6, wrap_step ht.1 ht.2 (Nat.le_trans h8 (by decide))]
   simp only [nexts, Int.lt_irrefl, decide_false, cond_false]
 ·rintro fu k ⟨q, mq⟩ hk0 hk1 h1
  simp only at h1 ⊢
  have hx := hgood _ (getD_mem (l := nexts next t) (t := k) (d := 0) hk0 hk1)
  have hxm : (nexts next t).getD k.toNat 0 ∈ nexts next t := getD_mem hk0 hk1
  have hstep : ∀ a b, Upto next t (k + 1).toNat a b → Upto next t k.toNat a b ∨ (a = t ∧ b = (nexts next t).getD k.toNat 0) := by
   rintro a b ⟨h2, h3 | ⟨h3, h4⟩⟩
   ·exact .inl ⟨h2, .inl h3⟩
   ·rw [show (k + 1).toNat = k.toNat + 1 by omega, List.take_succ_eq_append_getElem (by omega), List.mem_append] at h4
    rcases h4 with h4 | h4
    ·exact .inl ⟨h2, .inr ⟨h3, h4⟩⟩
    ·simp only [List.mem_singleton] at h4
     exact .inr ⟨h3, by rw [h4, getD_nat _ _ _ hk0 hk1]⟩
  have hl := h1.ri.len
  have hk1' : k < ((next.getD t.toNat []).length : Int) := hk1
  have e : ∀ fu, rule_Rules_l6 nf next w0 t g4 g2 (fu + 1) q mq k = bif less q t ((nexts next t).getD k.toNat 0) != q.getD ((nexts next t).getD k.toNat 0).toNat 0 then rule_Rules_l6 nf next w0 t g4 g2 fu (q.set ((nexts next t).getD k.toNat 0).toNat (less q t ((nexts next t).getD k.toNat 0))) true (k + 1) else rule_Rules_l6 nf next w0 t g4 g2 fu q mq (k + 1) := by
   intro fu
   rw [rule_Rules_l6, rule_Rules_b6]
   have hx' : 0 ≤ List.getD (next.getD t.toNat []) k.toNat 0 ∧ List.getD (next.getD t.toNat []) k.toNat 0 < next.length := hx
   rw [inb_ok hk0 hk1', inb_ok (t := t) (n := q.length) ht.1 (by omega), inb_ok (n := q.length) hx'.1 (by omega), wrap_step (n := (next.getD t.toNat []).length) hk0 hk1' hlen]
   simp only [hk1', hx'.1, decide_true, cond_true]
   rfl
  generalize (nexts next t).getD k.toNat 0 = x at hx hxm hstep e
  by_cases hd : Done q t x
  ·refine ⟨(q, mq), ?_, h1.done hd hstep⟩
   rw [e fu, show (less q t x != q.getD x.toNat 0) = false from (by unfold Done at hd; rw [hd, bne_self_eq_false]), cond_false]
  ·refine ⟨(q.set x.toNat (less q t x), true), ?_, h1.more hW hc hxm hd⟩
   rw [e fu, bne_t hd, cond_true]

theorem rules_l4 (hW : WayOK next) (hn : 12 ≤ nf) {base : List Int} (h : RI next base) (g2 : List Int → Bool → Option (List Int × Unit)) :
  ∃ r' m', Rd next base (Upto next next.length 0) r' m' ∧ rule_Rules_l4 nf next (wd (reach nf next 0 (-1)), ()) g2 nf base false 0 = g2 r' m' := by
 have h8 := hW.few
 have hm : next.length ≤ maxLen := Nat.le_trans h8 (by decide)
 have key := loop_inv (n := next.length) (F := fun fu t (q : List Int × Bool) => rule_Rules_l4 nf next (wd (reach nf next 0 (-1)), ()) g2 fu q.1 q.2 t)
  (fun t q => Rd next base (Upto next t 0) q.1 q.2) ?_ nf 0 (base, false) (Int.le_refl _) (by omega) (by omega) ⟨h, fun _ => ⟨rfl, fun i j hij => by
   rcases hij.2 with ⟨h1, _⟩ | ⟨_, h2⟩
   ·have := come_good hW hij.1; omega
   ·simp at h2⟩, fun hm => by (cases hm)⟩
 ·obtain ⟨fu', ⟨r', m'⟩, h1, h5⟩ := key
  refine ⟨r', m', h1, ?_⟩
  rw [h5, rule_Rules_l4, rule_Rules_b4]
  simp only [Int.lt_irrefl, decide_false, cond_false]
 ·rintro fu t ⟨q, mq⟩ ht0 ht1 h1
  simp only at h1 ⊢
  obtain ⟨hw, hb⟩ := reachw (nf := nf) (wo := -1) hW (zero_good hW) t.toNat
  have hs := shr_and_beq0 hw ht0 (show t < 32 by omega)
  rw [hb] at hs
  unfold and32 at hs
  by_cases hc : Come next t
  ·obtain ⟨r', m', h2, h3⟩ := rules_l6 (nf := nf) (w0 := (wd (reach nf next 0 (-1)), ())) hW hn hc h1 (fun rules3 more2 t37 => rule_Rules_l4 nf next (wd (reach nf next 0 (-1)), ()) g2 fu rules3 more2 t37) g2
   refine ⟨(r', m'), ?_, h2⟩
   rw [rule_Rules_l4, rule_Rules_b4]
   simp only [ht1, ht0, decide_true, cond_true, inb_ok ht0 ht1]
   rw [hs, decide_eq_true (show ((t.toNat : Nat) : Int) ∈ reach nf next 0 (-1) by rw [show ((t.toNat : Nat) : Int) = t by omega]; exact (mem_reach hW hn (zero_good hW) t).2 hc)]
   exact h3
  ·refine ⟨(q, mq), ?_, h1.weak fun a b hab => ⟨hab.1, ?_⟩⟩
   ·rw [rule_Rules_l4, rule_Rules_b4]
    simp only [ht1, ht0, decide_true, cond_true, inb_ok ht0 ht1]
    rw [hs, decide_eq_false (show ¬ ((t.toNat : Nat) : Int) ∈ reach nf next 0 (-1) by rw [show ((t.toNat : Nat) : Int) = t by omega]; exact fun h => hc ((mem_reach hW hn (zero_good hW) t).1 h)), wrap_step ht0 ht1 hm]
    rfl
   ·rcases hab.2 with ⟨h2, h3⟩ | ⟨_, h3⟩
    ·by_cases hat : a = t
     ·subst hat; exact absurd hab.1 hc
     ·exact .inl ⟨by omega, h3⟩
    ·simp at h3

theorem rules_l2 (hW : WayOK next) (hn : 12 ≤ nf) : ∀ (fu : Nat) {base : List Int}, RI next base → total base + 1 < fu →
  ∃ r, RI next r ∧ (∀ i, Come next i → ∀ j ∈ nexts next i, Done r i j) ∧ rule_Rules_l2 nf next (wd (reach nf next 0 (-1)), ()) fu base true = some (r, ())
 | 0, _, _, h => by omega
 | fu + 1, base, h, hf => by
  obtain ⟨r', m', h1, h2⟩ := rules_l4 (nf := nf) hW hn h (fun rules2 more => rule_Rules_l2 nf next (wd (reach nf next 0 (-1)), ()) fu rules2 more)
  have e : rule_Rules_l2 nf next (wd (reach nf next 0 (-1)), ()) (fu + 1) base true = rule_Rules_l2 nf next (wd (reach nf next 0 (-1)), ()) fu r' m' := by
   rw [rule_Rules_l2, rule_Rules_b2]; exact h2
  rw [e]
  cases hm : m' with
  | true => exact rules_l2 hW hn fu h1.ri (by have := h1.yes hm; omega)
  | false =>
   obtain ⟨h3, h4⟩ := h1.no hm
   subst h3
   refine ⟨r', h, fun i hi j hj => h4 i j ⟨hi, .inl ⟨(come_good hW hi).2, hj⟩⟩, ?_⟩
   obtain ⟨fu', rfl⟩ : ∃ f, fu = f + 1 := ⟨fu - 1, by omega⟩
   rw [rule_Rules_l2, rule_Rules_b2]; rfl

/-- is i on each way to j? -/
def domB (nf : Nat) (next : List (List Int)) (i j : Int) : Bool := decide (i ∈ reach nf next 0 (-1)) && (decide (j ∈ reach nf next 0 (-1)) && (decide (i = j) || !decide (j ∈ reach nf next 0 i)))
theorem domB_iff (hW : WayOK next) (hn : 12 ≤ nf) {i j : Int} : domB nf next i j = true ↔ Dom next i j := by
 have hz := zero_good hW
 simp only [domB, Bool.and_eq_true, Bool.or_eq_true, decide_eq_true_eq, Bool.not_eq_true', decide_eq_false_iff_not, mem_reach hW hn hz]
 constructor
 ·rintro ⟨h1, h2, h3⟩
  refine ⟨h1, h2, ?_⟩
  rcases h3 with rfl | h3
  ·exact fun h => no_dom h rfl
  ·exact h3
 ·rintro ⟨h1, h2, h3⟩
  exact ⟨h1, h2, .inr h3⟩

theorem ref_Rules_F (hW : WayOK next) (hn : 12 ≤ nf) {i j : Int} : ref_Rules_f nf next i j = some (domB nf next i j, ()) := by
 have hz := zero_good hW
 have h8 := hW.few
 have hl : ∀ wo, (reach nf next 0 wo).length ≤ maxLen ∧ (reach nf next 0 wo).length < nf := fun wo => by
  have := (reach_nodes (nf := nf) (wo := wo) hW hz).len
  exact ⟨Nat.le_trans this (Nat.le_trans h8 (by decide)), by omega⟩
 simp only [ref_Rules_f, ref_Rules_p, reach_F hW hn hz, Option.bind_some, whas_F _ _ (hl _).1 (hl _).2, domB]
 by_cases h1 : i ∈ reach nf next 0 (-1)
 ·by_cases h2 : j ∈ reach nf next 0 (-1)
  ·by_cases h3 : i = j
   ·subst h3; simp [h1]
   ·simp [h1, h2, h3, beq_f h3]
  ·simp [h1, h2]
 ·simp [h1]

/-- what rule.Rules computes -/
def RulesOK (nf : Nat) (next : List (List Int)) (r : List Int) : Prop := r.length = next.length ∧ ∀ j : Int, 0 ≤ j → j < next.length → W32 (r.getD j.toNat 0) ∧ ∀ k : Nat, bt (r.getD j.toNat 0) k = domB nf next k j

theorem rules_F (hW : WayOK next) (hn : 100000000000 ≤ nf) : ∃ r, RulesOK nf next r ∧ rule_Rules_f nf next = some (r, ()) := by
 have h12 : 12 ≤ nf := by omega
 have hz := zero_good hW
 have h8 := hW.few
 have hp := hW.pos
 have hm : next.length ≤ maxLen := Nat.le_trans h8 (by decide)
 have hwd := fun k => reachw (nf := nf) (wo := -1) hW hz k
 have hmem := fun j => mem_reach (nf := nf) (wo := -1) hW h12 hz j
 simp only [rule_Rules_f, rule_Rules_p, wfrom_F hW h12 hz, Option.bind_some]
 have c : (decide (0 ≤ (List.length next : Int)) && decide ((List.length next : Int) ≤ (List.length next : Int)) && decide ((List.length next : Int) ≤ ((lim : Nat) : Int))) = true := by
  rw [decide_eq_true (show (0 : Int) ≤ (List.length next : Int) by omega), decide_eq_true (Int.le_refl _), decide_eq_true (show (List.length next : Int) ≤ ((lim : Nat) : Int) by show (List.length next : Int) ≤ ((4294967296 : Nat) : Int); omega)]; rfl
 rw [c, cond_true, Int.toNat_natCast]
 have key := loop_inv (n := next.length) (F := fun fu t (q : List Int) => rule_Rules_l0 nf next (wd (reach nf next 0 (-1)), ()) fu q t)
  (fun t q => q.length = next.length ∧ ∀ i : Int, 0 ≤ i → i < next.length → q.getD i.toNat 0 = if i < t ∧ i ∈ reach nf next 0 (-1) then wd (reach nf next 0 (-1)) else 0)
  ?_ nf 0 (List.replicate next.length 0) (Int.le_refl _) (by omega) (by omega) ⟨by simp, fun i a b => by rw [if_neg (by omega), List.getD_eq_getElem?_getD, List.getElem?_replicate]; split <;> rfl⟩
 ·obtain ⟨fu', q, ⟨h1, h2⟩, h5⟩ := key
  have hg : ∀ y : Nat, (q.set 0 1).getD y 0 = if y = 0 then 1 else q.getD y 0 := fun y => getD_upd (by omega) y
  have hri : RI next (q.set 0 1) := by
   refine ⟨by simp [h1], fun j a b => ?_, fun j a b hj => ?_, fun j a b k hk => ?_, fun j a b k hk => ?_, by rw [hg]; rfl⟩
   ·rw [hg]; split
    ·exact W32_one
    ·rw [h2 j a b]; split
     ·exact (hwd 0).1
     ·exact W32_zero
   ·rw [hg]; split
    ·exact absurd (show Come next j by rw [show j = 0 by omega]; exact come_zero) hj
    ·rw [h2 j a b, if_neg fun h => hj ((hmem j).1 h.2)]
   ·rw [hg] at hk
    split at hk
    ·rw [bt_one] at hk
     have : k = 0 := by simpa using hk
     subst this; exact come_zero
    ·rw [h2 j a b] at hk
     split at hk
     ·rw [(hwd k).2] at hk; exact (hmem k).1 (by simpa using hk)
     ·rw [bt_zero] at hk; cases hk
   ·rw [hg]; split
    ·rw [bt_one, decide_eq_true_eq]
     have hj0 : j = 0 := by omega
     subst hj0
     apply Classical.byContradiction
     intro hk0
     exact hk.2.2 (.here (by omega))
    ·rw [h2 j a b, if_pos ⟨b, (hmem j).2 hk.2.1⟩, (hwd k).2]
     exact decide_eq_true ((hmem k).2 hk.1)
  have htot : total (q.set 0 1) ≤ (q.set 0 1).length * 4294967296 := total_le fun x hx => by
   obtain ⟨y, hy, rfl⟩ := List.mem_iff_getElem.1 hx
   have := hri.w y (by omega) (by rw [← hri.len]; omega)
   rw [Int.toNat_natCast, List.getD_eq_getElem?_getD, List.getElem?_eq_getElem hy] at this
   exact this
  rw [hri.len] at htot
  obtain ⟨r, g1, g2, g3⟩ := rules_l2 hW h12 nf hri (by omega)
  refine ⟨r, ⟨g1.len, fun j a b => ⟨g1.w j a b, fun k => ?_⟩⟩, ?_⟩
  ·rw [Bool.eq_iff_iff, g1.fin hW g2 j ⟨a, b⟩ k, domB_iff hW h12]
  ·rw [h5, rule_Rules_l0, rule_Rules_b0]
   have e : ((List.replicate (List.length next : Int).toNat (0 : Int)).length : Int) = (next.length : Int) := by simp
   rw [e, inb_ok (Int.le_refl 0) (by omega)]
   simp only [Int.lt_irrefl, decide_false, cond_false, cond_true]
   exact g3
 ·rintro fu t q ht0 ht1 ⟨h1, h2⟩
  have hs := shr_and_beq1 (hwd t.toNat).1 ht0 (show t < 32 by omega)
  rw [(hwd t.toNat).2, show ((t.toNat : Nat) : Int) = t by omega] at hs
  unfold and32 at hs
  have e : ((List.replicate (List.length next : Int).toNat (0 : Int)).length : Int) = (next.length : Int) := by simp
  by_cases hc : t ∈ reach nf next 0 (-1)
  ·refine ⟨q.set t.toNat (wd (reach nf next 0 (-1))), ?_, by simp [h1], fun i a b => ?_⟩
   ·rw [rule_Rules_l0, rule_Rules_b0, e]
    simp only [hs, ht1, ht0, hc, decide_true, cond_true, inb_ok (t := t) (n := q.length) ht0 (by omega), wrap_step ht0 ht1 hm]
   ·rw [getD_upd (by omega)]
    by_cases hit : i = t
    ·subst hit; rw [if_pos rfl, if_pos ⟨by omega, hc⟩]
    ·rw [if_neg (by omega), h2 i a b]
     congr 1
     rw [eq_iff_iff]
     constructor
     ·rintro ⟨h3, h4⟩; exact ⟨by omega, h4⟩
     ·rintro ⟨h3, h4⟩; exact ⟨by omega, h4⟩
  ·refine ⟨q, ?_, h1, fun i a b => ?_⟩
   ·rw [rule_Rules_l0, rule_Rules_b0, e]
    simp only [hs, ht1, ht0, hc, decide_true, decide_false, cond_true, cond_false, wrap_step ht0 ht1 hm]
   ·rw [h2 i a b]
    congr 1
    rw [eq_iff_iff]
    constructor
    ·rintro ⟨h3, h4⟩; exact ⟨by omega, h4⟩
    ·rintro ⟨h3, h4⟩
     refine ⟨?_, h4⟩
     by_cases hit : i = t
     ·subst hit; exact absurd h4 hc
     ·omega


end Go.Proofs.Ytoglkjmdloppcaa
