/- Ways: to which nodes one comes, as a list and as a word. -/
import Derived.Test.YtccbcbhiblohgaaWay
namespace Go.Proofs.Ytccbcbhiblohgaa
open Go Go.Ab S

theorem nodup_len : ∀ (n : Nat) (l : List Int), l.Nodup → (∀ x ∈ l, 0 ≤ x ∧ x < n) → l.length ≤ n
  | 0, [], _, _ => Nat.le_refl _
  | 0, x :: l, _, h => by have := h x (by simp); omega
  | n + 1, l, hn, h => by
    by_cases hm : (n : Int) ∈ l
    · have h1 := nodup_len n (l.erase n) (hn.erase _) fun x hx => by
        have h2 := h x (List.mem_of_mem_erase hx)
        have h3 : x ≠ n := fun he => by subst he; exact (List.Nodup.not_mem_erase hn) hx
        omega
      rw [List.length_erase_of_mem hm] at h1
      omega
    · have := nodup_len n l hn fun x hx => by
        have h2 := h x hx
        have h3 : x ≠ n := fun he => by subst he; exact hm hx
        omega
      omega

/-- nodes, each once -/
structure Nodes (n : Nat) (s : List Int) : Prop where
  once : s.Nodup
  good : ∀ x ∈ s, 0 ≤ x ∧ x < n
theorem Nodes.len {n : Nat} {s : List Int} (h : Nodes n s) : s.length ≤ n := nodup_len n s h.once h.good

theorem has_F {nf : Nat} (l : List Int) (x : Int) (hl : l.length ≤ maxLen) (hf : l.length < nf) : ref_Has_f nf l x = some (decide (x ∈ l), ()) := by
  have h := loop_all (l := l) (d := 0) (F := fun fu t (_ : Unit) => ref_Has_l0 nf l x fu t) (fin := fun _ => some (false, ()))
    (step := fun y _ s k => bif x == y then some (true, ()) else k s) ?_ ?_ nf () hf
  · show ref_Has_l0 nf l x nf 0 = _
    rw [show ref_Has_l0 nf l x nf 0 = _ from h]
    have key : ∀ (l : List Int) (t : Int), goL (fun y _ (s : Unit) k => bif x == y then some (true, ()) else k s) (fun _ => some (false, ())) l t () = some (decide (x ∈ l), ()) := by
      intro l
      induction l with
      | nil => intro t; rfl
      | cons y r ih =>
        intro t
        simp only [goL, ih]
        by_cases h1 : x = y
        · simp [h1]
        · have : (x == y) = false := by simpa using h1
          simp [h1, this]
    exact key l 0
  · intro fu t s a b
    simp only [ref_Has_l0, ref_Has_b0, inb_ok a b, wrap_step a b hl, b, decide_true, cond_true]
  · intro fu t s a
    simp [ref_Has_l0, ref_Has_b0, a]

def addN (wo : Int) (s : List Int) (x : Int) : List Int := if x ≠ wo ∧ x ∉ s then s ++ [x] else s
theorem addN_nodes {n : Nat} {wo x : Int} {s : List Int} (h : Nodes n s) (hx : 0 ≤ x ∧ x < n) : Nodes n (addN wo s x) := by
  unfold addN
  split
  · rename_i hc
    refine ⟨List.nodup_append.2 ⟨h.once, by simp, fun a ha b hb => ?_⟩, fun y hy => ?_⟩
    · simp only [List.mem_singleton] at hb
      subst hb
      rintro rfl
      exact hc.2 ha
    · rcases List.mem_append.1 hy with hy | hy
      · exact h.good y hy
      · simp only [List.mem_singleton] at hy; subst hy; exact hx
  · exact h

/-- the word of a list -/
def wd (l : List Int) : Int := l.foldl (fun s x => or32 s (shlI .u32 1 x)) 0
theorem wd_snoc (l : List Int) (x : Int) : wd (l ++ [x]) = or32 (wd l) (shlI .u32 1 x) := by simp [wd, List.foldl_append]
theorem wd_ok_aux : ∀ (l : List Int) (s : Int), W32 s → (∀ x ∈ l, 0 ≤ x ∧ x < 32) → W32 (l.foldl (fun s x => or32 s (shlI .u32 1 x)) s) ∧ ∀ i : Nat, bt (l.foldl (fun s x => or32 s (shlI .u32 1 x)) s) i = (bt s i || decide ((i : Int) ∈ l))
  | [], s, hs, _ => ⟨hs, fun i => by simp⟩
  | x :: l, s, hs, h => by
    have hx := h x (by simp)
    obtain ⟨h1, h2⟩ := wd_ok_aux l (or32 s (shlI .u32 1 x)) (or32_w _ _) fun y hy => h y (by simp [hy])
    refine ⟨h1, fun i => ?_⟩
    rw [List.foldl_cons, h2, or32_bt hs (one_w hx.1 hx.2), one_bt hx.1 hx.2]
    by_cases hi : (i : Int) = x
    · have h3 : i = x.toNat := by omega
      have h4 : (i : Int) ∈ x :: l := by rw [hi]; simp
      rw [decide_eq_true h3, decide_eq_true h4]
      simp
    · have h3 : ¬ i = x.toNat := by omega
      simp [hi, h3]
theorem wd_w {l : List Int} (h : ∀ x ∈ l, 0 ≤ x ∧ x < 32) : W32 (wd l) := (wd_ok_aux l 0 W32_zero h).1
theorem wd_bt {l : List Int} (h : ∀ x ∈ l, 0 ≤ x ∧ x < 32) (i : Nat) : bt (wd l) i = decide ((i : Int) ∈ l) := by
  rw [wd, (wd_ok_aux l 0 W32_zero h).2, bt_zero, Bool.false_or]

theorem set_F {nf : Nat} (l : List Int) (hl : l.length ≤ maxLen) (hf : l.length < nf) (h : ∀ x ∈ l, 0 ≤ x ∧ x < 32) : ref_Set_f nf l = some (wd l, ()) := by
  have h9 := loop_all (l := l) (d := 0) (F := fun fu t (s : Int) => ref_Set_l0 nf l fu s t) (fin := fun s => some (s, ()))
    (step := fun x _ s k => bif decide (0 ≤ IntKind.u64.wrap x) then k (or32 s (shlI .u32 1 (IntKind.u64.wrap x))) else none) ?_ ?_ nf 0 hf
  · show ref_Set_l0 nf l nf 0 0 = _
    rw [show ref_Set_l0 nf l nf 0 0 = _ from h9]
    refine goL_fold (fun _ => True) l 0 0 trivial fun x hx t s k _ => ⟨?_, trivial⟩
    obtain ⟨h1, h2⟩ := h x hx
    rw [Go.IntWalk.u64_in x ⟨h1, by omega⟩]
    simp [h1]
  · intro fu t s a b
    simp only [ref_Set_l0, ref_Set_b0, inb_ok a b, wrap_step a b hl, b, decide_true, cond_true]
    rfl
  · intro fu t s a
    simp [ref_Set_l0, ref_Set_b0, a]

def nexts (next : List (List Int)) (x : Int) : List Int := next.getD x.toNat []
theorem nexts_mem {next : List (List Int)} {x : Int} (h0 : 0 ≤ x) (h1 : x < next.length) : nexts next x ∈ next := getD_mem h0 h1

def reachGo (next : List (List Int)) (wo : Int) : Nat → List Int → Nat → List Int
  | 0, s, _ => s
  | f + 1, s, k => if k < s.length then reachGo next wo f ((nexts next (s.getD k 0)).foldl (addN wo) s) (k + 1) else s
/-- to which nodes one comes, without one -/
def reach (nf : Nat) (next : List (List Int)) (i wo : Int) : List Int := if i = wo then [] else reachGo next wo nf [i] 0

variable {next : List (List Int)}

theorem round_nodes (hW : WayOK next) {wo x : Int} (hx : 0 ≤ x ∧ x < next.length) {s : List Int} (hs : Nodes next.length s) : Nodes next.length ((nexts next x).foldl (addN wo) s) :=
  foldl_inv (Nodes next.length) _ s hs fun y hy _ h => addN_nodes h (hW.good _ (nexts_mem hx.1 hx.2) y hy)

theorem ble_lim {n : Nat} (h : n ≤ 9) : Nat.ble n lim = true := by
  rw [Nat.ble_eq]; exact Nat.le_trans h (by decide)

theorem reach_l2 (hW : WayOK next) {nf : Nat} (hn : 12 ≤ nf) {wo : Int} {k : Nat} {s : List Int} (hs : Nodes next.length s) (hk : k < s.length) (g : List Int → Int → Option (List Int × Unit)) :
    ref_Reach_l2 nf next wo k s g nf s 0 = g ((nexts next (s.getD k 0)).foldl (addN wo) s) ((k : Int) + 1) := by
  have hx : 0 ≤ s.getD k 0 ∧ s.getD k 0 < next.length := by
    rw [List.getD_eq_getElem?_getD, List.getElem?_eq_getElem hk]
    exact hs.good _ (List.getElem_mem hk)
  have hthin := hW.thin _ (nexts_mem hx.1 hx.2)
  have hgood := hW.good _ (nexts_mem hx.1 hx.2)
  have hl : (nexts next (s.getD k 0)).length ≤ maxLen := Nat.le_trans hthin (by decide)
  have hlen := hs.len
  have hfew := hW.few
  have h := loop_all (l := nexts next (s.getD k 0)) (d := 0) (F := fun fu t (s' : List Int) => ref_Reach_l2 nf next wo k s g fu s' t) (fin := fun s => g s ((k : Int) + 1))
    (step := fun x _ s k => bif x != wo then Option.bind (ref_Has_f nf s x) fun r => bif !r.fst then (bif bimp false ![x].isEmpty && (s.length + [x].length).ble lim then k (s ++ [x]) else none) else k s else k s) ?_ ?_ nf s (by omega)
  · rw [show ref_Reach_l2 nf next wo k s g nf s 0 = _ from h]
    refine goL_fold (Nodes next.length) _ 0 s hs fun x hx t s' k' hs' => ⟨?_, addN_nodes hs' (hgood x hx)⟩
    have := hs'.len
    rw [has_F s' x (by simp [maxLen]; omega) (by omega)]
    unfold addN
    by_cases h1 : x = wo
    · simp [h1]
    · by_cases h2 : x ∈ s'
      · simp [h2]
      · have hb := ble_lim (n := s'.length + 1) (by omega)
        simp [h1, bne_t h1, h2, bimp, hb]
  · intro fu t s' a b
    simp only [ref_Reach_l2, ref_Reach_b2]
    simp only [nexts] at hl a b ⊢
    simp only [Int.toNat_natCast, inb_ok a b, wrap_step a b hl, b, decide_true, cond_true]
  · intro fu t s' a
    have hk1 : IntKind.i64.wrap ((k : Int) + 1) = (k : Int) + 1 := Go.IntWalk.i64_in _ (by have := hs.len; have := hW.few; omega)
    simp only [ref_Reach_l2, ref_Reach_b2]
    simp only [nexts] at a ⊢
    simp [a, hk1]

theorem addN_len (wo : Int) (s : List Int) (x : Int) : s.length ≤ (addN wo s x).length := by
  unfold addN; split <;> simp
theorem addN_grow (wo : Int) : ∀ (l s : List Int), s.length ≤ (l.foldl (addN wo) s).length
  | [], _ => Nat.le_refl _
  | x :: l, s => Nat.le_trans (addN_len wo s x) (addN_grow wo l _)

theorem nodes_at {n : Nat} {s : List Int} (hs : Nodes n s) {k : Nat} (hk : k < s.length) : 0 ≤ s.getD k 0 ∧ s.getD k 0 < n := by
  rw [List.getD_eq_getElem?_getD, List.getElem?_eq_getElem hk]
  exact hs.good _ (List.getElem_mem hk)

theorem reach_l0 (hW : WayOK next) {nf : Nat} (hn : 12 ≤ nf) {wo : Int} : ∀ (fu k : Nat) (s : List Int), Nodes next.length s → k ≤ s.length → next.length + 1 ≤ k + fu → ref_Reach_l0 nf next wo fu s k = some (reachGo next wo fu s k, ())
  | 0, k, s, hs, hk, h => by have := hs.len; omega
  | fu + 1, k, s, hs, hk, h => by
    simp only [ref_Reach_l0, ref_Reach_b0, reachGo]
    by_cases h1 : k < s.length
    · have hx := nodes_at hs h1
      have h2 : ((k : Int) < (s.length : Int)) := by omega
      rw [if_pos h1, inb_ok (by omega) h2]
      simp only [h2, decide_true, cond_true, Int.toNat_natCast, inb_ok hx.1 hx.2]
      rw [reach_l2 hW hn hs h1]
      have := reach_l0 (wo := wo) hW hn fu (k + 1) _ (round_nodes (wo := wo) hW hx hs) (Nat.le_trans h1 (addN_grow _ _ _)) (by omega)
      simpa using this
    · have h2 : ¬ ((k : Int) < (s.length : Int)) := by omega
      rw [if_neg h1]
      simp [h2]

theorem one_nodes {i : Int} {n : Nat} (hi : 0 ≤ i ∧ i < n) : Nodes n [i] := ⟨by simp, fun x hx => by simp only [List.mem_singleton] at hx; subst hx; exact hi⟩

theorem reach_F (hW : WayOK next) {nf : Nat} (hn : 12 ≤ nf) {i wo : Int} (hi : 0 ≤ i ∧ i < next.length) : ref_Reach_f nf next i wo = some (reach nf next i wo, ()) := by
  simp only [ref_Reach_f, ref_Reach_p, reach]
  by_cases h : i = wo
  · simp [h]
  · have h1 : (i == wo) = false := by simpa using h
    have := hW.few
    rw [h1, if_neg h]
    exact reach_l0 hW hn nf 0 [i] (one_nodes hi) (by simp) (by omega)

theorem from_l2 (hW : WayOK next) {nf : Nat} (hn : 12 ≤ nf) {wo : Int} {k : Nat} {s : List Int} (hs : Nodes next.length s) (hk : k < s.length) (g : Int → List Int → Option (Int × Unit)) :
    way_From_l2 nf next wo (s.drop k) g nf (wd s) (s.drop k) 0 = g (wd ((nexts next (s.getD k 0)).foldl (addN wo) s)) (((nexts next (s.getD k 0)).foldl (addN wo) s).drop (k + 1)) := by
  have hx := nodes_at hs hk
  have hthin := hW.thin _ (nexts_mem hx.1 hx.2)
  have hgood := hW.good _ (nexts_mem hx.1 hx.2)
  have hl : (nexts next (s.getD k 0)).length ≤ maxLen := Nat.le_trans hthin (by decide)
  have hlen := hs.len
  have hfew := hW.few
  have hhead : (s.drop k).getD 0 0 = s.getD k 0 := by simp [List.getD_eq_getElem?_getD]
  have h := loop_all (l := nexts next (s.getD k 0)) (d := 0) (F := fun fu t (p : Int × List Int) => way_From_l2 nf next wo (s.drop k) g fu p.1 p.2 t)
    (fin := fun p => bif decide (0 ≤ 1) && decide (1 ≤ (p.2.length : Int)) && decide ((p.2.length : Int) ≤ (p.2.length : Int)) then g p.1 (List.take ((p.2.length : Int) - 1).toNat (List.drop 1 p.2)) else none)
    (step := fun x _ p k => bif x != wo then bif decide (0 ≤ x) then bif and32 (shrI .u32 p.1 x) 1 == 0 then bif decide (0 ≤ x) then bif bimp false ![x].isEmpty && (p.2.length + [x].length).ble lim then k (or32 p.1 (shlI .u32 1 x), p.2 ++ [x]) else none else none else k p else none else k p) ?_ ?_ nf (wd s, s.drop k) (by omega)
  · rw [show way_From_l2 nf next wo (s.drop k) g nf (wd s) (s.drop k) 0 = _ from h]
    have hsim : ∀ x ∈ nexts next (s.getD k 0), ∀ (t : Int) (p : Int × List Int) (s' : List Int), (p = (wd s', s'.drop k) ∧ Nodes next.length s' ∧ k < s'.length) →
        ∃ p', (∀ k' : Int × List Int → Option (Int × Unit), (fun x _ p k => bif x != wo then bif decide (0 ≤ x) then bif and32 (shrI .u32 p.1 x) 1 == 0 then bif decide (0 ≤ x) then bif bimp false ![x].isEmpty && (p.2.length + [x].length).ble lim then k (or32 p.1 (shlI .u32 1 x), p.2 ++ [x]) else none else none else k p else none else k p) x t p k' = k' p') ∧ (p' = (wd (addN wo s' x), (addN wo s' x).drop k) ∧ Nodes next.length (addN wo s' x) ∧ k < (addN wo s' x).length) := by
      intro x hx t p s' hp
      obtain ⟨h1, h2, h3⟩ := hp
      subst h1
      have hx' := hgood x hx
      have hlen' := h2.len
      have hw := wd_w (l := s') fun y hy => by have := h2.good y hy; omega
      refine ⟨(wd (addN wo s' x), (addN wo s' x).drop k), fun k' => ?_, rfl, addN_nodes h2 hx', Nat.lt_of_lt_of_le h3 (addN_len _ _ _)⟩
      dsimp only
      rw [shr_and_beq0 hw hx'.1 (by omega), wd_bt fun y hy => by have := h2.good y hy; omega]
      rw [show ((x.toNat : Nat) : Int) = x by omega]
      unfold addN
      by_cases h4 : x = wo
      · simp [h4]
      · by_cases h5 : x ∈ s'
        · simp [h5, hx'.1]
        · have hb := ble_lim (n := s'.length - k + 1) (by omega)
          simp [h4, bne_t h4, h5, hx'.1, bimp, hb, wd_snoc, List.drop_append_of_le_length (show k ≤ s'.length by omega)]
    obtain ⟨p, ⟨h1, h2, h3⟩, h4⟩ := goL_sim (f := addN wo) (fin := fun p : Int × List Int => bif decide (0 ≤ 1) && decide (1 ≤ (p.2.length : Int)) && decide ((p.2.length : Int) ≤ (p.2.length : Int)) then g p.1 (List.take ((p.2.length : Int) - 1).toNat (List.drop 1 p.2)) else none)
      (fun (p : Int × List Int) s' => p = (wd s', s'.drop k) ∧ Nodes next.length s' ∧ k < s'.length) (nexts next (s.getD k 0)) 0 (wd s, s.drop k) s ⟨rfl, hs, hk⟩ (step := fun x _ p k => bif x != wo then bif decide (0 ≤ x) then bif and32 (shrI .u32 p.1 x) 1 == 0 then bif decide (0 ≤ x) then bif bimp false ![x].isEmpty && (p.2.length + [x].length).ble lim then k (or32 p.1 (shlI .u32 1 x), p.2 ++ [x]) else none else none else k p else none else k p) hsim
    rw [h4, h1]
    generalize (nexts next (s.getD k 0)).foldl (addN wo) s = S at h3 ⊢
    have e1 : List.take (((S.drop k).length : Int) - 1).toNat ((S.drop k).drop 1) = S.drop (k + 1) := by
      rw [List.take_of_length_le, List.drop_drop]
      rw [List.drop_drop, List.length_drop, List.length_drop]
      omega
    have h5 : (1 : Int) ≤ ((S.drop k).length : Int) := by rw [List.length_drop]; omega
    have e2 : (decide ((0 : Int) ≤ 1) && decide (1 ≤ ((S.drop k).length : Int)) && decide (((S.drop k).length : Int) ≤ ((S.drop k).length : Int))) = true := by
      rw [decide_eq_true h5, decide_eq_true (Int.le_refl ((S.drop k).length : Int))]; rfl
    show (bif (decide ((0 : Int) ≤ 1) && decide (1 ≤ ((S.drop k).length : Int)) && decide (((S.drop k).length : Int) ≤ ((S.drop k).length : Int))) then g (wd S) (List.take (((S.drop k).length : Int) - 1).toNat ((S.drop k).drop 1)) else none) = _
    rw [e1, e2]
    rfl
  · intro fu t p a b
    simp only [way_From_l2, way_From_b2, hhead]
    simp only [nexts] at hl a b ⊢
    simp only [inb_ok a b, wrap_step a b hl, b, decide_true, cond_true]
    rfl
  · intro fu t p a
    simp only [way_From_l2, way_From_b2, hhead]
    simp only [nexts] at a ⊢
    simp [a]

theorem from_l0 (hW : WayOK next) {nf : Nat} (hn : 12 ≤ nf) {wo : Int} : ∀ (fu k : Nat) (s : List Int), Nodes next.length s → k ≤ s.length → next.length + 1 ≤ k + fu → way_From_l0 nf next wo fu (wd s) (s.drop k) = some (wd (reachGo next wo fu s k), ())
  | 0, k, s, hs, hk, h => by have := hs.len; omega
  | fu + 1, k, s, hs, hk, h => by
    simp only [way_From_l0, way_From_b0, reachGo]
    have hhead : (s.drop k).getD 0 0 = s.getD k 0 := by simp [List.getD_eq_getElem?_getD]
    by_cases h1 : k < s.length
    · have hx := nodes_at hs h1
      have h2 : 0 < (s.drop k).length := by rw [List.length_drop]; omega
      rw [if_pos h1, hhead, inb_ok hx.1 hx.2, inb_ok (Int.le_refl 0) (by omega)]
      have h3 : ((s.drop k).length : Int) > 0 := by omega
      simp only [h3, decide_true, cond_true]
      rw [from_l2 hW hn hs h1]
      exact from_l0 hW hn fu (k + 1) _ (round_nodes (wo := wo) hW hx hs) (Nat.le_trans h1 (addN_grow _ _ _)) (by omega)
    · have h2 : ¬ ((s.drop k).length : Int) > 0 := by rw [List.length_drop]; omega
      rw [if_neg h1]
      simp only [h2, decide_false, cond_false]

theorem from_F (hW : WayOK next) {nf : Nat} (hn : 12 ≤ nf) {i wo : Int} (hi : 0 ≤ i ∧ i < next.length) : way_From_f nf next i wo = some (wd (reach nf next i wo), ()) := by
  simp only [way_From_f, way_From_p, reach]
  by_cases h : i = wo
  · simp [h, wd]
  · have h1 : (i == wo) = false := by simpa using h
    have := hW.few
    rw [h1, if_neg h]
    simp only [cond_false, hi.1, decide_true, cond_true]
    have h2 : wd [i] = shlI .u32 1 i := by
      have hb := one_w hi.1 (show i < 32 by omega)
      refine bt_ext (wd_w fun x hx => ?_) hb fun j _ => ?_
      · simp only [List.mem_singleton] at hx; subst hx; omega
      · rw [wd_bt fun x hx => by simp only [List.mem_singleton] at hx; subst hx; omega]
        rw [one_bt hi.1 (by omega)]
        simp only [List.mem_singleton, decide_eq_decide]
        omega
    rw [← h2]
    exact from_l0 hW hn nf 0 [i] (one_nodes hi) (by simp) (by omega)
end Go.Proofs.Ytccbcbhiblohgaa
