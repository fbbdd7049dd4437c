/- A program with what is known put in. -/
import Derived.Test.YtokjogplnoeicaaKnownRef
namespace Go.Proofs.Ytokjogplnoeicaa
open Go Go.Ab S

variable {nf : Nat} {n : Int} {p : List Blk}

/-! sums of lengths -/
theorem wrap_nn {x : Int} (h0 : 0 ≤ x) (h1 : x ≤ 9223372036854775807) : IntKind.i64.wrap x = x := Go.IntWalk.i64_in _ ⟨by omega, by omega⟩
theorem many_le : ∀ (l : List Blk) (m : Nat), m + l.length * 140737488355328 ≤ 4611686018427387904 → (∀ b ∈ l, b.1.length ≤ 140737488355328) → ∃ k : Nat, manyGo l m = (k : Int) ∧ m ≤ k ∧ ∀ b ∈ l, b.1.length ≤ k
  | [], m, _, _ => ⟨m, rfl, Nat.le_refl _, fun b hb => by cases hb⟩
  | b :: r, m, h, hb => by
    have h1 := hb b (by simp)
    simp only [List.length_cons, Nat.add_mul, Nat.one_mul] at h
    obtain ⟨k, k1, k2, k3⟩ := many_le r (m + b.1.length) (by omega) fun c hc => hb c (by simp [hc])
    refine ⟨k, ?_, by omega, fun c hc => ?_⟩
    · rw [manyGo, wrap_nn (by omega) (by omega), ← k1]; simp
    · rcases List.mem_cons.1 hc with rfl | hc
      · omega
      · exact k3 c hc
theorem codes_short {vars : Int} (h : progCode vars p = 0) (hs : ∀ b ∈ p, b.1.length ≤ 140737488355328) : ∀ b ∈ p, b.1.length ≤ 20 := by
  have h0 := h
  unfold progCode at h
  split at h
  · cases h
  · rename_i hc
    simp only [not_or] at hc
    obtain ⟨k, k1, _, k3⟩ := many_le p 0 (by omega) hs
    intro b hb
    have := k3 b hb
    have h5 := hc.2.2.2.2
    rw [show ((0 : Nat) : Int) = 0 from rfl] at k1
    rw [k1] at h5
    omega

/-! what is put in -/
def foldC : List Step6 → List Int → List Step6
  | [], _ => []
  | s :: r, v => (if mkV s v = -1 then s else (1, s.2.1, 0, 0, mkV s v, ())) :: foldC r (v.set s.2.1.toNat (mkV s v))
theorem foldC_len : ∀ (c : List Step6) (v : List Int), (foldC c v).length = c.length
  | [], _ => rfl
  | s :: r, v => by simp [foldC, foldC_len r]
def foldT (t : Int × Int × Int × Unit) (v : List Int) : Int × Int × Int × Unit := if 0 ≤ t.1 ∧ 0 ≤ v.getD t.1.toNat 0 then (-1, (goes ([], t) v).getD 0 0, 0, ()) else t
def foldB (b : Blk) (v : List Int) : Blk := if v = [] then ([], -1, -1, 0, ()) else (foldC b.1 v, foldT b.2 (rowF b.1 v))
theorem rowF_cons (s : Step6) (r : List Step6) (v : List Int) : rowF (s :: r) v = rowF r (v.set s.2.1.toNat (mkV s v)) := rfl
theorem goes_snd (c : List Step6) (b : Blk) (v : List Int) : goes b v = goes (c, b.2) v := rfl

theorem getD_mid {α : Type} (pre : List α) (s : α) (rest : List α) (d : α) : (pre ++ s :: rest).getD ((pre.length : Int)).toNat d = s := by
  simp [List.getD]
theorem set_mid {α : Type} (pre : List α) (s x : α) (rest : List α) : (pre ++ s :: rest).set ((pre.length : Int)).toNat x = pre ++ x :: rest := by
  simp
theorem inb_mid {α : Type} (pre : List α) (s : α) (rest : List α) : inb (pre.length : Int) (pre ++ s :: rest).length = true := inb_ok (by omega) (by simp; omega)

theorem foldT_goes {b : Blk} {m : Int} (hb : blockCode n m b = 0) {v : List Int} (hv : Row n v) : foldT b.2 v = if 0 ≤ b.2.1 ∧ (goes b v).length = 1 then (-1, (goes b v).getD 0 0, 0, ()) else b.2 := by
  obtain ⟨_, b1, b2, b3, b4⟩ := blockCode_ok hb
  unfold foldT
  by_cases c1 : 0 ≤ b.2.1
  · have hk := hv.get c1 b2
    unfold isK at hk
    rw [goes_snd [] b v]
    by_cases c2 : 0 < v.getD b.2.1.toNat 0
    · have : (goes ([], b.2) v) = [b.2.2.1] := by
        unfold goes; rw [if_neg (fun h => by have := h.1; simp only at this; omega), if_pos (.inr c2)]
      rw [this, if_pos ⟨c1, by omega⟩, if_pos ⟨c1, rfl⟩]
    · by_cases c3 : v.getD b.2.1.toNat 0 = 0
      · have : (goes ([], b.2) v) = [b.2.2.2.1] := by
          unfold goes; rw [if_neg (fun h => by have := h.1; simp only at this; omega), if_neg (fun h => h.elim (fun h => by simp only at h; omega) (fun h => c2 h)), if_pos c3]
        rw [this, if_pos ⟨c1, by omega⟩, if_pos ⟨c1, rfl⟩]
      · have : (goes ([], b.2) v) = [b.2.2.1, b.2.2.2.1] := by
          unfold goes; rw [if_neg (fun h => by have := h.1; simp only at this; omega), if_neg (fun h => h.elim (fun h => by simp only at h; omega) (fun h => c2 h)), if_neg c3]
        rw [this, if_neg (fun h => by omega), if_neg (fun h => by have := h.2; simp at this)]
  · rw [if_neg (fun h => c1 h.1), if_neg (fun h => c1 h.1)]

theorem kfold_l2 (hn6 : n ≤ 6) {R : List (List Int) × Unit} {t28 : Int} {r4 : List Step6 × Unit} (hr4 : r4.1.length ≤ 20) {g0 : List Blk → List (List Int) → Int → Option (List Blk × Int × Unit)} {out : List Blk} (ho : out.length ≤ 100) {b2 : Int × Int × Int × Unit} {to' : List Int} {X : List (List Int)} :
    ∀ (rest pre : List Step6) (v : List Int) (fu : Nat), Row n v → (∀ s ∈ rest, stepCode n n s = 0) → pre.length + rest.length = r4.1.length → rest.length < fu →
      known_Fold_l2 nf p R t28 r4 g0 fu out v (pre ++ rest, b2) to' X (pre.length : Int) =
        g0 (out ++ [(pre ++ foldC rest v, if 0 ≤ b2.1 ∧ to'.length = 1 then (-1, to'.getD 0 0, 0, ()) else b2)]) X (IntKind.i64.wrap (t28 + 1))
  | _, _, _, 0, _, _, _, h => by omega
  | [], pre, v, fu + 1, hv, _, hl, _ => by
    rw [known_Fold_l2, known_Fold_b2]
    have hlt : ¬ ((pre.length : Int) < (r4.1.length : Int)) := by simp at hl; omega
    have hb : Nat.ble (out.length + 1) lim = true := ble_ok (by omega)
    simp only [hlt, decide_false, cond_false, List.append_nil, foldC, List.length_cons, List.length_nil, Nat.zero_add, hb, Bool.and_true, Bool.not_false]
    have hle : ∀ x : Blk, leM (((Ty.int .i64).pair ((Ty.int .i64).pair ((Ty.int .i64).pair ((Ty.int .i64).pair ((Ty.int .i64).pair Ty.unit))))).sl.pair ((Ty.int .i64).pair ((Ty.int .i64).pair ((Ty.int .i64).pair Ty.unit)))) 0 (Md.bor false false) (Md.bor false false) = true := fun _ => rfl
    rw [hle ([], b2)]
    simp only [Bool.true_and, cond_true]
    by_cases c1 : 0 ≤ b2.1
    · simp only [ge_iff_le, c1, decide_true, cond_true, true_and]
      by_cases c2 : to'.length = 1
      · have hi : inb 0 to'.length = true := inb_ok (by omega) (by omega)
        have h1 : ((to'.length : Int) == 1) = true := by simp [c2]
        rw [h1, hi]
        simp only [cond_true]
        rw [if_pos c2]
      · have : ((to'.length : Int) == 1) = false := beq_f (by omega)
        rw [this, cond_false, if_neg c2]
    · simp only [ge_iff_le, c1, decide_false, cond_false, false_and, if_false]
  | s :: rest, pre, v, fu + 1, hv, hs, hl, hf => by
    have hc := hs s (by simp)
    obtain ⟨_, _, _, _, ⟨to0, to1⟩, _⟩ := stepCode_ok (op := s.1) (to := s.2.1) (a := s.2.2.1) (b := s.2.2.2.1) (k := s.2.2.2.2.1) (u := ()) hc
    have hmk := mkV_isK hv hc
    have hv' : Row n (v.set s.2.1.toNat (mkV s v)) := hv.set _ hmk
    have hlt : (pre.length : Int) < (r4.1.length : Int) := by simp only [List.length_cons] at hl; omega
    have ih := fun x => kfold_l2 hn6 (R := R) (t28 := t28) hr4 (g0 := g0) ho (b2 := b2) (to' := to') (X := X) rest (pre ++ [x]) (v.set s.2.1.toNat (mkV s v)) fu hv' (fun y hy => hs y (by simp [hy])) (by simp only [List.length_append, List.length_cons, List.length_nil] at hl ⊢; omega) (by simp only [List.length_cons] at hf; omega)
    have hpl : ∀ x : Step6, ((pre ++ [x]).length : Int) = (pre.length : Int) + 1 := fun x => by simp
    have hw : IntKind.i64.wrap ((pre.length : Int) + 1) = (pre.length : Int) + 1 := wrap_nn (by omega) (by omega)
    rw [known_Fold_l2, known_Fold_b2]
    simp only [hlt, decide_true, cond_true, inb_mid, getD_mid, set_mid, (makes_F hv hc).1, Option.bind_some, hv.inb to0 to1, hv'.inb to0 to1, hw]
    have hget : (v.set s.2.1.toNat (mkV s v)).getD s.2.1.toNat 0 = mkV s v := by
      have : s.2.1.toNat < v.length := by have := hv.len; omega
      simp [List.getD, this]
    simp only [hget, foldC]
    by_cases c : mkV s v = -1
    · simp only [c, bne_self_eq_false, cond_false, if_true]
      have := ih s
      rw [c] at this
      rw [hpl, List.append_assoc, List.append_assoc] at this
      exact this
    · rw [bne_t c, cond_true, if_neg c]
      have := ih (1, s.2.1, 0, 0, mkV s v, ())
      rw [hpl, List.append_assoc, List.append_assoc] at this
      exact this

theorem rfold_l2 (hn6 : n ≤ 6) {m : Int} (hm0 : 0 ≤ m) {R : List (List Int) × Unit} {t16 : Int} {g0 : List Blk → List (List Int) → Int → Option (List Blk × Unit)} {out : List Blk} (ho : out.length ≤ 100) {b : Blk} (hb : blockCode n m b = 0) (hbl : b.1.length ≤ 20) (hget : p.getD t16.toNat ([], 0, 0, 0, ()) = b) {X : List (List Int)} :
    ∀ (rest don pre : List Step6) (v : List Int) (fu : Nat), Row n v → don ++ rest = b.1 → pre.length = don.length → rest.length < fu →
      ref_Folds_l2 nf p R t16 g0 fu out v (pre, b.2) X (don.length : Int) = g0 (out ++ [(pre ++ foldC rest v, foldT b.2 (rowF rest v))]) X (IntKind.i64.wrap (t16 + 1))
  | _, _, _, _, 0, _, _, _, h => by omega
  | [], don, pre, v, fu + 1, hv, hl, hp, _ => by
    obtain ⟨_, b1, b2, b3, b4⟩ := blockCode_ok hb
    rw [List.append_nil] at hl
    rw [ref_Folds_l2, ref_Folds_b2, hget]
    have hlt : ¬ ((don.length : Int) < (b.1.length : Int)) := by rw [hl]; omega
    have hbl : Nat.ble (out.length + 1) lim = true := ble_ok (by omega)
    have hle : leM (((Ty.int .i64).pair ((Ty.int .i64).pair ((Ty.int .i64).pair ((Ty.int .i64).pair ((Ty.int .i64).pair Ty.unit))))).sl.pair ((Ty.int .i64).pair ((Ty.int .i64).pair ((Ty.int .i64).pair Ty.unit)))) 0 (Md.bor false false) (Md.bor false false) = true := rfl
    have hg : ref_Goings_f nf (pre, b.2) v = some (goes b v, ()) := by
      have := goings_F (nf := nf) hm0 hb hv
      exact this
    simp only [hlt, decide_false, cond_false, List.append_nil, foldC, List.length_cons, List.length_nil, Nat.zero_add, hbl, Bool.and_true, Bool.not_false, hle, cond_true, hg, Option.bind_some, rowF, List.foldl_nil]
    rw [foldT_goes hb hv]
    by_cases c1 : 0 ≤ b.2.1
    · have hk := hv.get c1 b2
      unfold isK at hk
      have hlen : (goes b v).length = 1 ↔ 0 ≤ v.getD b.2.1.toNat 0 := by
        unfold goes
        rw [if_neg (fun h => by omega)]
        by_cases c2 : 0 < v.getD b.2.1.toNat 0
        · rw [if_pos (.inr c2)]; exact ⟨fun _ => by omega, fun _ => rfl⟩
        · rw [if_neg (fun h => h.elim (fun h => by omega) c2)]
          by_cases c3 : v.getD b.2.1.toNat 0 = 0
          · rw [if_pos c3]; exact ⟨fun _ => by omega, fun _ => rfl⟩
          · rw [if_neg c3]; exact ⟨fun h => by simp at h, fun h => by omega⟩
      simp only [ge_iff_le, c1, decide_true, cond_true, true_and, hv.inb c1 b2, hlen]
      by_cases c2 : 0 ≤ v.getD b.2.1.toNat 0
      · have hi : inb 0 (goes b v).length = true := inb_ok (by omega) (by have := hlen.2 c2; omega)
        simp only [c2, decide_true, cond_true, hi, if_true]
      · simp only [c2, decide_false, cond_false, if_false]
    · simp only [ge_iff_le, c1, decide_false, cond_false, false_and, if_false]
  | s :: rest, don, pre, v, fu + 1, hv, hl, hp, hf => by
    obtain ⟨hsg, _⟩ := blockCode_ok hb
    have hc := stepsGo_all hsg s (by rw [← hl]; simp)
    obtain ⟨_, _, _, _, ⟨to0, to1⟩, _⟩ := stepCode_ok (op := s.1) (to := s.2.1) (a := s.2.2.1) (b := s.2.2.2.1) (k := s.2.2.2.2.1) (u := ()) hc
    have hmk := mkV_isK hv hc
    have hv' : Row n (v.set s.2.1.toNat (mkV s v)) := hv.set _ hmk
    have hdl : don.length + (rest.length + 1) = b.1.length := by rw [← hl]; simp
    have hlt : (don.length : Int) < (b.1.length : Int) := by omega
    have ih := fun x => rfold_l2 hn6 hm0 (R := R) (t16 := t16) (g0 := g0) ho hb hbl hget (X := X) rest (don ++ [s]) (pre ++ [x]) (v.set s.2.1.toNat (mkV s v)) fu hv' (by rw [List.append_assoc]; exact hl) (by simp [hp]) (by simp only [List.length_cons] at hf; omega)
    have hpl : ((don ++ [s]).length : Int) = (don.length : Int) + 1 := by simp
    have hw : IntKind.i64.wrap ((don.length : Int) + 1) = (don.length : Int) + 1 := wrap_nn (by omega) (by omega)
    have hvl := hv.len
    have hvb : Nat.ble v.length lim = true := ble_ok (by omega)
    have hpb : Nat.ble (pre.length + 1) lim = true := ble_ok (by omega)
    have hgs : b.1.getD ((don.length : Int)).toNat (0, 0, 0, 0, 0, ()) = s := by rw [← hl]; exact getD_mid _ _ _ _
    rw [ref_Folds_l2, ref_Folds_b2, hget]
    simp only [hlt, decide_true, cond_true, inb_ok (Int.natCast_nonneg don.length) hlt, hgs, (makes_F hv hc).2, Option.bind_some, bimp, List.length_nil, Nat.zero_add, hvb, List.nil_append, hv.inb to0 to1, hw, List.length_cons, List.isEmpty_cons, Bool.not_false, Bool.true_and, hpb]
    unfold isK at hmk
    simp only [foldC, rowF_cons]
    by_cases c : mkV s v = -1
    · have := ih s
      rw [c] at this
      rw [hpl, List.append_assoc] at this
      simp only [c, if_true, ge_iff_le, show ¬ ((0 : Int) ≤ -1) by omega, decide_false, cond_false]
      exact this
    · have := ih (1, s.2.1, 0, 0, mkV s v, ())
      rw [hpl, List.append_assoc] at this
      simp only [c, if_false, ge_iff_le, show (0 : Int) ≤ mkV s v by omega, decide_true, cond_true]
      exact this
end Go.Proofs.Ytokjogplnoeicaa
