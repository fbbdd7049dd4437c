/- Ways: in which order nodes are left. -/
import Derived.Test.YtccbcbhiblohgaaReach
import Derived.Test.YtccbcbhiblohgaaWalkH
import Derived.Test.YtccbcbhiblohgaaFn4
namespace Go.Proofs.Ytccbcbhiblohgaa
open Go Go.Ab S

abbrev WS := List Int × List Int
variable {next : List (List Int)} {nf : Nat}

/-- nodes that were seen, and those that were left, each in its order -/
def dfs (next : List (List Int)) : Nat → Int → WS → WS
  | 0, _, p => p
  | f + 1, i, p => (((nexts next i).foldl (fun p j => if j ∈ p.1 then p else dfs next f j p) (p.1 ++ [i], p.2)).1,
      ((nexts next i).foldl (fun p j => if j ∈ p.1 then p else dfs next f j p) (p.1 ++ [i], p.2)).2 ++ [i])

/-- what was seen and left -/
structure DS (n : Nat) (p : WS) : Prop where
  seen : Nodes n p.1
  once : p.2.Nodup
  sub : ∀ x ∈ p.2, x ∈ p.1
theorem DS.len {n : Nat} {p : WS} (h : DS n p) : p.2.length ≤ n := nodup_len n p.2 h.once fun x hx => h.seen.good x (h.sub x hx)
/-- p came before q -/
structure Later (p q : WS) : Prop where
  sub : ∀ x ∈ p.1, x ∈ q.1
  len : p.1.length ≤ q.1.length
  new : ∀ x ∈ q.2, x ∈ p.2 ∨ x ∉ p.1
theorem Later.refl (p : WS) : Later p p := ⟨fun _ h => h, Nat.le_refl _, fun _ h => .inl h⟩
theorem Later.trans {p q r : WS} (h1 : Later p q) (h2 : Later q r) : Later p r :=
  ⟨fun x h => h2.sub x (h1.sub x h), Nat.le_trans h1.len h2.len, fun x h => by
    rcases h2.new x h with h | h
    · exact h1.new x h
    · exact .inr fun hx => h (h1.sub x hx)⟩
/-- flags of what was seen -/
def Seen (n : Nat) (S : List Bool) (s : List Int) : Prop := S.length = n ∧ ∀ k : Nat, k < n → S.getD k false = decide ((k : Int) ∈ s)

/-- what a walk from one node does -/
structure Went (next : List (List Int)) (d : Nat) (i : Int) (p : WS) : Prop where
  ok : DS next.length (dfs next d i p)
  later : Later p (dfs next d i p)
  ref : ∀ nf, d + 12 ≤ nf → ref_Walk_F nf (next, i, p.1, p.2, ()) = some ((dfs next d i p).1, (dfs next d i p).2, ())
  own : ∀ S, Seen next.length S p.1 → ∃ S', Seen next.length S' (dfs next d i p).1 ∧ ∀ nf, d + 12 ≤ nf → visit_F nf [i] (S, p.2, ()) (next, ()) = some (S', (dfs next d i p).2, ())

theorem seen_set {n : Nat} {S : List Bool} {s : List Int} {i : Int} (h : Seen n S s) (h0 : 0 ≤ i) (h1 : i < n) : Seen n (S.set i.toNat true) (s ++ [i]) := by
  refine ⟨by simp [h.1], fun k hk => ?_⟩
  rw [getD_upd (by rw [h.1]; omega)]
  by_cases hki : k = i.toNat
  · subst hki
    simp [Int.toNat_of_nonneg h0]
  · have : ¬ ((k : Int) = i) := by omega
    rw [if_neg hki, h.2 k hk]
    simp [this]

theorem seen_one {n : Nat} {S S' : List Bool} {s : List Int} (h : Seen n S s) (h' : Seen n S' s) : S = S' := by
  refine List.ext_getElem (by rw [h.1, h'.1]) fun k h1 h2 => ?_
  have a := h.2 k (by rw [← h.1]; exact h1)
  rw [← h'.2 k (by rw [← h.1]; exact h1)] at a
  simpa [List.getD_eq_getElem?_getD, h1, h2] using a

theorem went (hW : WayOK next) : ∀ (d : Nat) (i : Int) (p : WS), DS next.length p → 0 ≤ i → i < next.length → i ∉ p.1 → next.length ≤ p.1.length + d → Went next d i p
  | 0, i, p, hD, h0, h1, hi, hd => by
    exfalso
    have hN : Nodes next.length (p.1 ++ [i]) := by
      have := addN_nodes (wo := -1) hD.seen ⟨h0, h1⟩
      rwa [addN, if_pos ⟨by omega, hi⟩] at this
    have := hN.len
    simp at this
    omega
  | d + 1, i, p, hD, h0, h1, hi, hd => by
    have h8 := hW.few
    have hN : Nodes next.length (p.1 ++ [i]) := by
      have := addN_nodes (wo := -1) hD.seen ⟨h0, h1⟩
      rwa [addN, if_pos ⟨by omega, hi⟩] at this
    have hmem : nexts next i ∈ next := nexts_mem h0 h1
    have hthin := hW.thin _ hmem
    have hgood := hW.good _ hmem
    have hlen : (nexts next i).length ≤ maxLen := Nat.le_trans hthin (by decide)
    have hJ0 : DS next.length (p.1 ++ [i], p.2) := ⟨hN, hD.once, fun x hx => List.mem_append_left _ (hD.sub x hx)⟩
    have step : ∀ j, 0 ≤ j → j < (next.length : Int) → ∀ q, DS next.length q → Later (p.1 ++ [i], p.2) q → j ∉ q.1 → Went next d j q := fun j a b q hq hl hj =>
      went hW d j q hq a b hj (by have := hl.len; simp at this; omega)
    -- what all rounds make
    have hfold := foldl_inv (f := fun (p : WS) j => if j ∈ p.1 then p else dfs next d j p) (fun q => DS next.length q ∧ Later (p.1 ++ [i], p.2) q) (nexts next i) (p.1 ++ [i], p.2) ⟨hJ0, Later.refl _⟩ fun j hj q ⟨hq, hl⟩ => by
      obtain ⟨a, b⟩ := hgood j hj
      split
      · exact ⟨hq, hl⟩
      · rename_i hjq
        have := step j a b q hq hl hjq
        exact ⟨this.ok, hl.trans this.later⟩
    obtain ⟨Q, hQ⟩ : ∃ Q, Q = (nexts next i).foldl (fun (p : WS) j => if j ∈ p.1 then p else dfs next d j p) (p.1 ++ [i], p.2) := ⟨_, rfl⟩
    have hdfs : dfs next (d + 1) i p = (Q.1, Q.2 ++ [i]) := by rw [hQ]; rfl
    rw [← hQ] at hfold
    obtain ⟨hQ1, hQ2⟩ := hfold
    have hiQ1 : i ∈ Q.1 := hQ2.sub i (by simp)
    have hiQ2 : i ∉ Q.2 := fun h => by
      rcases hQ2.new i h with h | h
      · exact hi (hD.sub i h)
      · exact h (by simp)
    have hQlen := hQ1.len
    refine ⟨?_, ?_, fun nf hnf => ?_, fun S hS => ?_⟩
    · rw [hdfs]
      refine ⟨hQ1.seen, List.nodup_append.2 ⟨hQ1.once, by simp, fun a ha b hb => ?_⟩, fun x hx => ?_⟩
      · simp only [List.mem_singleton] at hb
        subst hb
        rintro rfl
        exact hiQ2 ha
      · rcases List.mem_append.1 hx with hx | hx
        · exact hQ1.sub x hx
        · simp only [List.mem_singleton] at hx; subst hx; exact hiQ1
    · rw [hdfs]
      refine ⟨fun x hx => hQ2.sub x (List.mem_append_left _ hx), by have := hQ2.len; simp only [List.length_append, List.length_cons, List.length_nil] at this; show p.1.length ≤ Q.1.length; omega, fun x hx => ?_⟩
      rcases List.mem_append.1 hx with hx | hx
      · rcases hQ2.new x hx with h | h
        · exact .inl h
        · exact .inr fun hp => h (List.mem_append_left _ hp)
      · simp only [List.mem_singleton] at hx; subst hx; exact .inr hi
    · obtain ⟨nf, rfl⟩ : ∃ m, nf = m + 1 := ⟨nf - 1, by omega⟩
      rw [hdfs]
      rw [show ref_Walk_F (nf + 1) (next, i, p.1, p.2, ()) = ref_Walk_p nf (ref_Walk_F nf) (fun p0 p1 v0 v1 v2 => ref_Walk_l0 nf (ref_Walk_F nf) p0 p1 nf v0 v1 v2) next i p.1 p.2 from rfl]
      have hseenlen : p.1.length ≤ next.length := hD.seen.len
      simp only [ref_Walk_p, inb_ok h0 h1, cond_true, show (bimp false !([i] : List Int).isEmpty && (p.1.length + [i].length).ble lim) = true by
        simp only [List.isEmpty_cons, Bool.not_false, List.length_cons, List.length_nil]
        rw [ble_ok (by omega)]; rfl]
      have hdef : ∀ fu (s l : List Int) t, ref_Walk_l0 nf (ref_Walk_F nf) next i (fu + 1) s l t = ref_Walk_b0 nf (ref_Walk_F nf) next i (ref_Walk_l0 nf (ref_Walk_F nf) next i fu) s l t := fun _ _ _ _ => rfl
      have hgo := loop_all (l := nexts next i) (d := 0) (F := fun fu t (q : WS) => ref_Walk_l0 nf (ref_Walk_F nf) next i fu q.1 q.2 t)
        (fin := fun q => bif bimp false !([i] : List Int).isEmpty && (q.2.length + [i].length).ble lim then some (q.1, q.2 ++ [i], ()) else none)
        (step := fun j _ q k => Option.bind (ref_Has_f nf q.1 j) fun r => bif !r.fst then Option.bind (ref_Walk_F nf (next, j, q.1, q.2, ())) fun r2 => k (r2.1, r2.2.1) else k q) ?_ ?_ nf (p.1 ++ [i], p.2) (by omega)
      · refine hgo.trans ?_
        have hsim := goL_sim (fun (s u : WS) => s = u ∧ DS next.length u ∧ Later (p.1 ++ [i], p.2) u) (f := fun (p : WS) j => if j ∈ p.1 then p else dfs next d j p) (ρ := List Int × List Int × Unit)
          (fin := fun q => bif bimp false !([i] : List Int).isEmpty && (q.2.length + [i].length).ble lim then some (q.1, q.2 ++ [i], ()) else none)
          (step := fun j _ q k => Option.bind (ref_Has_f nf q.1 j) fun r => bif !r.fst then Option.bind (ref_Walk_F nf (next, j, q.1, q.2, ())) fun r2 => k (r2.1, r2.2.1) else k q)
          (nexts next i) 0 (p.1 ++ [i], p.2) (p.1 ++ [i], p.2) ⟨rfl, hJ0, Later.refl _⟩ ?_
        · obtain ⟨s', ⟨h5, _, _⟩, h6⟩ := hsim
          rw [h6, h5, ← hQ]
          simp only [List.isEmpty_cons, Bool.not_false, List.length_cons, List.length_nil]
          rw [ble_ok (by omega)]
          rfl
        · rintro j hj t s u ⟨rfl, hq, hl⟩
          obtain ⟨a, b⟩ := hgood j hj
          have hsl := hq.seen.len
          by_cases hjq : j ∈ s.1
          · refine ⟨s, fun k => ?_, ?_⟩
            · dsimp only
              rw [has_F _ _ (Nat.le_trans hsl (Nat.le_trans h8 (by decide))) (by omega)]
              simp [hjq]
            · simp only [hjq, if_true]; exact ⟨trivial, hq, hl⟩
          · have hw := step j a b s hq hl hjq
            refine ⟨dfs next d j s, fun k => ?_, ?_⟩
            · dsimp only
              rw [has_F _ _ (Nat.le_trans hsl (Nat.le_trans h8 (by decide))) (by omega), hw.ref nf (by omega)]
              simp [hjq]
            · simp only [hjq, if_false]; exact ⟨trivial, hw.ok, hl.trans hw.later⟩
      · intro fu t q a b
        simp only [hdef]
        unfold ref_Walk_b0
        have a' : t < ((next.getD i.toNat []).length : Int) := b
        simp only [inb_ok a a', a', wrap_step a b hlen, decide_true, cond_true]
        rfl
      · intro fu t q a
        simp only [hdef]
        unfold ref_Walk_b0
        have a' : ¬ t < ((next.getD i.toNat []).length : Int) := by
          have : t = ((next.getD i.toNat []).length : Int) := a
          omega
        simp only [a', decide_false, cond_false]
    · have hset := seen_set hS h0 h1
      have hdef : ∀ nf fu (s : List Bool) (l : List Int) t, visit_l0 (visit_F nf) next i (fu + 1) s l t = visit_b0 (visit_F nf) next i (visit_l0 (visit_F nf) next i fu) s l t := fun _ _ _ _ _ => rfl
      -- the flags do not hang on the fuel
      have hsim := fun (nf : Nat) (hnf : d + 12 ≤ nf) => goL_sim (fun (s : List Bool × List Int) (u : WS) => (s.2 = u.2 ∧ Seen next.length s.1 u.1) ∧ DS next.length u ∧ Later (p.1 ++ [i], p.2) u) (f := fun (p : WS) j => if j ∈ p.1 then p else dfs next d j p) (ρ := VS)
          (fin := fun q => bif !List.isEmpty [i] && Nat.ble (q.2.length + [i].length) lim then some (q.1, q.2 ++ [i], ()) else none)
          (step := fun j _ q k => bif inb j q.1.length then bif !(q.1.getD j.toNat false) then Option.bind (visit_F nf [j] (q.1, q.2, ()) (next, ())) fun r => k (r.1, r.2.1) else k q else none)
          (nexts next i) 0 (S.set i.toNat true, p.2) (p.1 ++ [i], p.2) ⟨⟨rfl, hset⟩, hJ0, Later.refl _⟩ (by
        rintro j hj t s u ⟨⟨hs1, hs2⟩, hq, hl⟩
        obtain ⟨a, b⟩ := hgood j hj
        have hin : inb j s.1.length = true := by rw [hs2.1]; exact inb_ok a b
        have hsn : s.1.getD j.toNat false = decide (j ∈ u.1) := by rw [hs2.2 j.toNat (by omega), Int.toNat_of_nonneg a]
        by_cases hjq : j ∈ u.1
        · refine ⟨s, fun k => ?_, ?_⟩
          · rw [hin, hsn]
            simp [hjq]
          · simp only [hjq, if_true]; exact ⟨⟨hs1, hs2⟩, hq, hl⟩
        · have hw := step j a b u hq hl hjq
          obtain ⟨S', h5, h6⟩ := hw.own s.1 hs2
          refine ⟨(S', (dfs next d j u).2), fun k => ?_, ?_⟩
          · rw [hin, hsn, hs1, h6 nf hnf]
            simp [hjq]
          · simp only [hjq, if_false]; exact ⟨⟨trivial, h5⟩, hw.ok, hl.trans hw.later⟩)
      have hrun : ∀ nf, d + 12 ≤ nf → ∃ S', Seen next.length S' Q.1 ∧ visit_F (nf + 1) [i] (S, p.2, ()) (next, ()) = some (S', Q.2 ++ [i], ()) := by
        intro nf hnf
        obtain ⟨s', ⟨⟨h5, h7⟩, _, _⟩, h6⟩ := hsim nf hnf
        rw [← hQ] at h5 h7
        refine ⟨s'.1, h7, ?_⟩
        rw [show visit_F (nf + 1) [i] (S, p.2, ()) (next, ()) = visit_p (fun p0 p1 v0 v1 v2 => visit_l0 (visit_F nf) p0 p1 nf v0 v1 v2) next i S p.2 from rfl]
        simp only [visit_p, inb_ok h0 h1, cond_true, show inb i S.length = true by rw [hS.1]; exact inb_ok h0 h1]
        have hgo := loop_all (l := nexts next i) (d := 0) (F := fun fu t (q : List Bool × List Int) => visit_l0 (visit_F nf) next i fu q.1 q.2 t)
          (fin := fun q => bif !List.isEmpty [i] && Nat.ble (q.2.length + [i].length) lim then some (q.1, q.2 ++ [i], ()) else none)
          (step := fun j _ q k => bif inb j q.1.length then bif !(q.1.getD j.toNat false) then Option.bind (visit_F nf [j] (q.1, q.2, ()) (next, ())) fun r => k (r.1, r.2.1) else k q else none) ?_ ?_ nf (S.set i.toNat true, p.2) (by omega)
        · refine hgo.trans ?_
          rw [h6, h5]
          simp only [List.isEmpty_cons, Bool.not_false, List.length_cons, List.length_nil]
          rw [ble_ok (by omega)]
          rfl
        · intro fu t q a b
          simp only [hdef]
          unfold visit_b0
          have a' : t < ((next.getD i.toNat []).length : Int) := b
          simp only [inb_ok a a', a', wrap_step a b hlen, decide_true, cond_true]
          rfl
        · intro fu t q a
          simp only [hdef]
          unfold visit_b0
          have a' : ¬ t < ((next.getD i.toNat []).length : Int) := by
            have : t = ((next.getD i.toNat []).length : Int) := a
            omega
          simp only [a', decide_false, cond_false]
      obtain ⟨S0, hS0, _⟩ := hrun (d + 12) (Nat.le_refl _)
      refine ⟨S0, by rw [hdfs]; exact hS0, fun nf hnf => ?_⟩
      obtain ⟨m, rfl⟩ : ∃ m, nf = m + 1 := ⟨nf - 1, by omega⟩
      obtain ⟨S1, hS1, h⟩ := hrun m (by omega)
      rw [seen_one hS0 hS1, hdfs]
      exact h
end Go.Proofs.Ytccbcbhiblohgaa
