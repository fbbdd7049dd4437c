/- mach.Code lays a program's bytes. -/
import Derived.Test.YtokjogplnoeicaaMSim
import Derived.Test.YtokjogplnoeicaaMaps
namespace Go.Proofs.Ytokjogplnoeicaa
open Go Go.Ab S

variable {nf : Nat} {n : Int} {p : List Blk} {T : List Tok}

abbrev rend0 : Tok → Int := rend fun _ => 0
/-- which addresses are still to be laid, and where -/
def wants : List Tok → Int → List (Int × Int)
  | [], _ => []
  | .lo i :: r, q => (q, i) :: wants r (q + 1)
  | _ :: r, q => wants r (q + 1)
theorem wants_app : ∀ (a c : List Tok) (q : Int), wants (a ++ c) q = wants a q ++ wants c (q + a.length)
  | [], c, q => by simp [wants]
  | x :: a, c, q => by
    have ih := wants_app a c (q + 1)
    have e : q + 1 + (a.length : Int) = q + ((x :: a).length : Int) := by simp only [List.length_cons]; omega
    rw [e] at ih
    cases x <;> simp only [List.cons_append, wants, ih]
theorem wants_b : ∀ (l : List Int) (q : Int), wants (l.map .b) q = []
  | [], _ => rfl
  | x :: l, q => wants_b l (q + 1)
theorem wants_at : ∀ (T : List Tok) (q k i : Int), (k, i) ∈ wants T q ↔ q ≤ k ∧ T[(k - q).toNat]? = some (.lo i)
  | [], q, k, i => by simp [wants]
  | x :: T, q, k, i => by
    have ih := wants_at T (q + 1) k i
    by_cases hk : k = q
    · subst hk
      have hn : ¬ (k, i) ∈ wants T (k + 1) := fun h => by have := (ih.1 h).1; omega
      rw [Int.sub_self, Int.toNat_zero, List.getElem?_cons_zero]
      cases x with
      | lo j => simp [wants, hn, eq_comm]
      | b _ => simp [wants, hn]
      | hi _ => simp [wants, hn]
    · have hkq : (k, i) ∈ wants (x :: T) q ↔ (k, i) ∈ wants T (q + 1) := by
        cases x with
        | lo j => simp [wants, hk]
        | b _ => rfl
        | hi _ => rfl
      rw [hkq, ih]
      constructor
      · rintro ⟨h1, h2⟩
        exact ⟨by omega, by rw [show (k - q).toNat = (k - (q + 1)).toNat + 1 by omega, List.getElem?_cons_succ]; exact h2⟩
      · rintro ⟨h1, h2⟩
        refine ⟨by omega, ?_⟩
        rw [show (k - q).toNat = (k - (q + 1)).toNat + 1 by omega, List.getElem?_cons_succ] at h2
        exact h2
theorem wants_nodup : ∀ (T : List Tok) (q : Int), (wants T q).Nodup
  | [], _ => List.nodup_nil
  | x :: T, q => by
    have ih := wants_nodup T (q + 1)
    cases x with
    | lo j =>
      simp only [wants]
      exact List.nodup_cons.2 ⟨fun h => by have := ((wants_at T (q + 1) q j).1 h).1; omega, ih⟩
    | b _ => exact ih
    | hi _ => exact ih
theorem ins_new : ∀ (m : List (Int × Int)) (y v : Int), (∀ x ∈ m, x.1 ≠ y) → insM (.int .i64) (.int .i64) m y v = m ++ [(y, v)]
  | [], _, _, _ => rfl
  | x :: m, y, v, h => by
    have h1 : eqD (.int .i64) x.1 y = false := by
      cases hh : eqD (.int .i64) x.1 y with
      | false => rfl
      | true => exact absurd ((eqD_iff (k := .int .i64) rfl x.1 y).1 hh) (h x (by simp))
    have h2 := ins_new m y v fun z hz => h z (by simp [hz])
    simp only [insM, h1, List.cons_append]
    rw [h2]

/-- an address's two bytes stand side by side -/
def Pair (T : List Tok) : Prop := (∀ i, T[0]? ≠ some (.hi i)) ∧ ∀ (m : Nat) i, T[m]? = some (.lo i) ↔ T[m + 1]? = some (.hi i)
theorem Pair.app {a c : List Tok} (ha : Pair a) (hc : Pair c) : Pair (a ++ c) := by
  refine ⟨fun i h => ?_, fun m i => ?_⟩
  · cases a with
    | nil => exact hc.1 i h
    | cons x a => exact ha.1 i h
  · rw [List.getElem?_append, List.getElem?_append]
    by_cases h1 : m + 1 < a.length
    · rw [if_pos (by omega), if_pos h1]; exact ha.2 m i
    · by_cases h2 : m < a.length
      · rw [if_pos h2, if_neg h1]
        constructor
        · intro h
          have := (ha.2 m i).1 h
          rw [List.getElem?_eq_none (by omega)] at this; cases this
        · intro h
          rw [show m + 1 - a.length = 0 by omega] at h
          exact absurd h (hc.1 i)
      · rw [if_neg h2, if_neg h1, show m + 1 - a.length = (m - a.length) + 1 by omega]
        exact hc.2 _ i
theorem pair_b (l : List Int) : Pair (l.map .b) := by
  refine ⟨fun i h => ?_, fun m i => ?_⟩
  · rw [List.getElem?_map] at h
    cases hl : l[0]? <;> rw [hl] at h <;> cases h
  · rw [List.getElem?_map, List.getElem?_map]
    constructor
    · intro h; cases hl : l[m]? <;> rw [hl] at h <;> cases h
    · intro h; cases hl : l[m + 1]? <;> rw [hl] at h <;> cases h
theorem pair_nil : Pair [] := pair_b []
theorem pair_3 (x i : Int) : Pair [.b x, .lo i, .hi i] := by
  refine ⟨fun j h => (by cases h), fun m j => ?_⟩
  match m with
  | 0 => constructor <;> intro h <;> cases h
  | 1 => constructor <;> intro h <;> (cases h; rfl)
  | m + 2 => constructor
             · intro h; cases m <;> cases h
             · intro h; cases h
theorem pair_block (i : Int) (b : Blk) : Pair (blockT i b) := by
  unfold blockT testT goT
  refine (pair_b _).app (Pair.app ?_ ?_)
  · split
    · exact pair_3 _ _
    · exact pair_nil
  · split
    · exact pair_b [0]
    · split
      · exact pair_nil
      · exact pair_3 _ _
theorem pair_toks : ∀ (l : List Blk) (i : Int), Pair (toks l i)
  | [], _ => pair_nil
  | b :: r, i => (pair_block i b).app (pair_toks r (i + 1))
theorem toks_lo {N : Int} : ∀ (l : List Blk) (i : Int), (∀ b ∈ l, blockCode n N b = 0) → ∀ j, Tok.lo j ∈ toks l i → 0 ≤ j ∧ j < N
  | [], _, _, j, h => by cases h
  | b :: r, i, hb, j, h => by
    obtain ⟨_, _, _, g4, g5⟩ := blockCode_ok (hb b (by simp))
    rcases List.mem_append.1 h with h | h
    · unfold blockT testT goT at h
      rcases List.mem_append.1 h with h | h
      · obtain ⟨x, _, e⟩ := List.mem_map.1 h; cases e
      · rcases List.mem_append.1 h with h | h
        · split at h
          · rename_i h0
            simp at h; subst h; exact g5 h0
          · cases h
        · split at h
          · simp at h
          · split at h
            · cases h
            · simp at h; subst h; omega
    · exact toks_lo r (i + 1) (fun c hc => hb c (by simp [hc])) j h

/-! addresses are laid -/
def valP (ad : Int → Int) (rest : List (Int × Int)) (m : Nat) : Tok → Int
  | .b x => x
  | .lo i => if ((m : Int), i) ∈ rest then 0 else ad i % 256
  | .hi i => if ((m : Int) - 1, i) ∈ rest then 0 else ad i / 256
def patP (ad : Int → Int) (rest : List (Int × Int)) (T : List Tok) : List Int := T.mapIdx fun m x => valP ad rest m x
theorem pat_all (ad : Int → Int) (T : List Tok) : patP ad [] T = T.map (rend ad) := by
  unfold patP
  rw [List.mapIdx_eq_iff]
  intro m
  rw [List.getElem?_map]
  cases T[m]? with
  | none => rfl
  | some x => cases x <;> simp [valP, rend]
theorem pat_none (ad : Int → Int) (hT : Pair T) : patP ad (wants T 0) T = T.map rend0 := by
  unfold patP
  rw [List.mapIdx_eq_iff]
  intro m
  rw [List.getElem?_map]
  cases hx : T[m]? with
  | none => rfl
  | some x =>
    cases x with
    | b x => rfl
    | lo i => simp [valP, rend, wants_at, hx]
    | hi i =>
      cases m with
      | zero => exact absurd hx (hT.1 i)
      | succ m =>
        have := (hT.2 m i).2 hx
        have e : (((m + 1 : Nat) : Int) - 1, i) ∈ wants T 0 := (wants_at T 0 _ i).2 ⟨by omega, by rw [show (((m + 1 : Nat) : Int) - 1 - 0).toNat = m by omega]; exact this⟩
        simp only [Option.map_some, valP, rend, if_pos e]
        rfl
theorem pat_step (ad : Int → Int) (hT : Pair T) {rest : List (Int × Int)} (hnd : rest.Nodup) (hsub : ∀ x ∈ rest, x ∈ wants T 0) {idx : Nat} (hi : idx < rest.length) :
    (List.set (List.set (patP ad rest T) rest[idx].1.toNat (ad rest[idx].2 % 256)) (rest[idx].1 + 1).toNat (ad rest[idx].2 / 256)) = patP ad (rest.eraseIdx idx) T := by
  obtain ⟨⟨k, j⟩, hkj⟩ : ∃ x, rest[idx] = x := ⟨_, rfl⟩
  rw [hkj]
  have hmem : (k, j) ∈ rest := by rw [← hkj]; exact List.getElem_mem hi
  obtain ⟨k0, hlo⟩ := (wants_at T 0 k j).1 (hsub _ hmem)
  rw [Int.sub_zero] at hlo
  have hhi := (hT.2 _ j).1 hlo
  have her : ∀ x, x ∈ rest.eraseIdx idx ↔ x ≠ (k, j) ∧ x ∈ rest := fun x => by
    rw [List.mem_eraseIdx_iff_getElem]
    constructor
    · rintro ⟨q, hq, hne, rfl⟩
      exact ⟨fun e => hne ((List.getElem_inj hnd).1 (e.trans hkj.symm)), List.getElem_mem hq⟩
    · rintro ⟨h1, h2⟩
      obtain ⟨q, hq, rfl⟩ := List.mem_iff_getElem.1 h2
      exact ⟨q, hq, fun e => h1 (by subst e; exact hkj), rfl⟩
  have hlT : (patP ad rest T).length = T.length := by simp [patP]
  have hk1 : k.toNat + 1 < T.length := by
    rcases Nat.lt_or_ge (k.toNat + 1) T.length with h | h
    · exact h
    · rw [List.getElem?_eq_none h] at hhi; cases hhi
  refine List.ext_getElem? fun m => ?_
  rw [List.getElem?_set, List.getElem?_set, show (k + 1).toNat = k.toNat + 1 by omega]
  have hr : (patP ad (rest.eraseIdx idx) T)[m]? = T[m]?.map (valP ad (rest.eraseIdx idx) m) := by simp [patP, List.getElem?_mapIdx]
  have hl : (patP ad rest T)[m]? = T[m]?.map (valP ad rest m) := by simp [patP, List.getElem?_mapIdx]
  rw [hr, hl]
  by_cases e1 : k.toNat + 1 = m
  · rw [if_pos e1, if_pos (by rw [List.length_set, hlT]; omega), ← e1, hhi]
    have : ¬ (((k.toNat + 1 : Nat) : Int) - 1, j) ∈ rest.eraseIdx idx := fun h => ((her _).1 h).1 (by rw [show ((k.toNat + 1 : Nat) : Int) - 1 = k by omega])
    simp only [Option.map_some, valP, if_neg this]
  · rw [if_neg e1]
    by_cases e2 : k.toNat = m
    · rw [if_pos e2, if_pos (by rw [hlT]; omega), ← e2, hlo]
      have : ¬ (((k.toNat : Nat) : Int), j) ∈ rest.eraseIdx idx := fun h => ((her _).1 h).1 (by rw [show ((k.toNat : Nat) : Int) = k by omega])
      simp only [Option.map_some, valP, if_neg this]
    · rw [if_neg e2]
      cases T[m]? with
      | none => rfl
      | some x =>
        cases x with
        | b x => rfl
        | lo i =>
          have : ((m : Int), i) ∈ rest.eraseIdx idx ↔ ((m : Int), i) ∈ rest := by
            rw [her]; exact ⟨fun h => h.2, fun h => ⟨fun e => by cases e; omega, h⟩⟩
          simp only [Option.map_some, valP, this]
        | hi i =>
          have : ((m : Int) - 1, i) ∈ rest.eraseIdx idx ↔ ((m : Int) - 1, i) ∈ rest := by
            rw [her]; exact ⟨fun h => h.2, fun h => ⟨fun e => by
              have := congrArg Prod.fst e
              simp only at this
              omega, h⟩⟩
          simp only [Option.map_some, valP, this]

theorem shr8 {x : Int} (h0 : 0 ≤ x) (h1 : x ≤ 255) : shrI .i64 x 8 = 0 := by
  unfold shrI
  have e : min (8 : Int).toNat IntKind.i64.bits = 8 := by decide
  rw [e, show (2 ^ 8 : Int) = 256 by decide, Int.fdiv_eq_ediv_of_nonneg _ (by omega)]
  omega
theorem code_l5 {begins want : List Int} {wm : List (Int × Int)} (hT : Pair T) (hl : T.length ≤ 255) {ad : Int → Int} (had : ∀ j, 0 ≤ j → j < (begins.length : Int) → ad j = begins.getD j.toNat 0 ∧ 0 ≤ ad j ∧ ad j ≤ 255) (hlo : ∀ j, Tok.lo j ∈ T → 0 ≤ j ∧ j < (begins.length : Int)) :
    ∀ (fu : Nat) (rest : List (Int × Int)), rest.Nodup → (∀ x ∈ rest, x ∈ wants T 0) → rest.length < fu → mach_Code_l5 nf fu (patP ad rest T) begins wm rest = some (T.map (rend ad), 0, ())
  | 0, _, _, _, h => by omega
  | fu + 1, rest, hnd, hsub, hf => by
    rw [mach_Code_l5, mach_Code_b5]
    cases hr : rest with
    | nil => simp only [List.isEmpty_nil, cond_true, pat_all]
    | cons r0 rs =>
      rw [← hr]
      have he : rest.isEmpty = false := by rw [hr]; rfl
      rw [he, cond_false]
      refine agree_of (by rw [hr]; simp) fun i hi => ?_
      have hg : rest.getD i (0, 0) = rest[i] := by simp [List.getD, hi]
      have hmem : rest[i] ∈ rest := List.getElem_mem hi
      have hw := (wants_at T 0 rest[i].1 rest[i].2).1 (hsub _ hmem)
      rw [Int.sub_zero] at hw
      have hj := hlo _ (List.mem_of_getElem? hw.2)
      have hhi := (hT.2 _ _).1 hw.2
      have hk1 : rest[i].1.toNat + 1 < T.length := by
        rcases Nat.lt_or_ge (rest[i].1.toNat + 1) T.length with h | h
        · exact h
        · rw [List.getElem?_eq_none h] at hhi; cases hhi
      obtain ⟨a1, a2, a3⟩ := had _ hj.1 hj.2
      have hlen : (patP ad rest T).length = T.length := by simp [patP]
      have ih := code_l5 (want := want) (wm := wm) hT hl had hlo fu (rest.eraseIdx i) (hnd.sublist (List.eraseIdx_sublist ..)) (fun x hx => hsub x ((List.eraseIdx_sublist ..).subset hx)) (by rw [List.length_eraseIdx, if_pos hi]; omega)
      rw [hg, inb_ok hj.1 hj.2, inb_ok (t := rest[i].1) (n := (patP ad rest T).length) hw.1 (by rw [hlen]; omega), wr64 (x := rest[i].1 + 1) (by omega) (by omega), ← a1, wr8 a2 a3, shr8 a2 a3, wr8 (x := 0) (by omega) (by omega)]
      simp only [cond_true]
      rw [inb_ok (t := rest[i].1 + 1) (by omega) (by rw [List.length_set, hlen]; omega), cond_true, ← ih, ← pat_step ad hT hnd hsub hi, show ad rest[i].2 % 256 = ad rest[i].2 by omega, show ad rest[i].2 / 256 = 0 by omega]

/-! the loops -/
theorem getD_get {α : Type} {l : List α} {k : Nat} {d : α} (h : k < l.length) : l.getD k d = l[k] := by simp [List.getD, h]
theorem mstep_F (hn6 : n ≤ 6) {s : Step6} (hs : stepCode n n s = 0) : mach_step_f nf s = some (stepB s, ()) := by
  obtain ⟨op, to, a, b, k, u⟩ := s
  obtain ⟨o1, o6, k1, k2, r1, k3⟩ := stepCode_ok hs
  simp only [mach_step_f, mach_step_p]
  unfold stepB
  simp only
  rw [wr64 (x := 24 + to) (by omega) (by omega), wr8 (x := 24 + to) (by omega) (by omega)]
  by_cases c1 : op = 1
  · have := k1 c1
    rw [if_pos c1, wr8 this.1 this.2]
    simp only [c1, beq_self_eq_true, cond_true]
  · rw [if_neg c1, beq_f c1, cond_false]
    by_cases c2 : op = 2
    · have := k2 c2
      rw [if_pos c2, wr64 (x := 16 + k) (by omega) (by omega), wr8 (x := 16 + k) (by omega) (by omega)]
      simp only [c2, beq_self_eq_true, cond_true]
    · obtain ⟨a0, a1, b0, b1⟩ := k3 (by omega)
      rw [if_neg c2, beq_f c2, cond_false, wr64 (x := 16 + a) (by omega) (by omega), wr8 (x := 16 + a) (by omega) (by omega), wr64 (x := op - 3) (by omega) (by omega), wr64 (x := op - 3 + 4) (by omega) (by omega), wr64 (x := (op - 3 + 4) * 8) (by omega) (by omega),
        wr64 (x := (op - 3 + 4) * 8 + b) (by omega) (by omega), wr8 (x := (op - 3 + 4) * 8 + b) (by omega) (by omega), show (op - 3 + 4) * 8 + b = 8 * (op + 1) + b by omega]
theorem to_F (hl : T.length ≤ 255) (o i : Int) : mach_Code_1_f nf o i (wants T 0) (T.map rend0) = some (some (wants (T ++ [Tok.b o, Tok.lo i, Tok.hi i]) 0), some ((T ++ [Tok.b o, Tok.lo i, Tok.hi i]).map rend0), ()) := by
  simp only [mach_Code_1_f, mach_Code_1_p]
  have hb : (!List.isEmpty [o, 0, 0] && Nat.ble ((T.map rend0).length + [o, 0, 0].length) lim) = true := by rw [ble_ok (by simp; omega)]; rfl
  rw [hb, cond_true, List.length_map, wr64 (x := (T.length : Int) + 1) (by omega) (by omega)]
  have hins : insM (.int .i64) (.int .i64) (wants T 0) ((T.length : Int) + 1) i = wants T 0 ++ [((T.length : Int) + 1, i)] := ins_new _ _ _ fun x hx he => by
    have := ((wants_at T 0 x.1 x.2).1 hx).2
    rw [he, Int.sub_zero, List.getElem?_eq_none (by omega)] at this
    cases this
  have hw : wants (T ++ [Tok.b o, Tok.lo i, Tok.hi i]) 0 = wants T 0 ++ [((T.length : Int) + 1, i)] := by
    rw [wants_app]
    simp [wants]
  rw [hw]
  have e : (T ++ [Tok.b o, Tok.lo i, Tok.hi i]).map rend0 = T.map rend0 ++ [o, 0, 0] := by simp [rend]
  rw [e]
  exact congrArg (fun z => some (some z, some (T.map rend0 ++ [o, 0, 0]), ())) hins

theorem code_l2 (hP : PG n p) {t : Int} (ht : 0 ≤ t ∧ t < (p.length : Int)) (hl : T.length + (blockT t (p.getD t.toNat B0)).length ≤ 250) {begins : List Int} {g0 : List Int → List Int → List (Int × Int) → Int → Option (List Int × Int × Unit)} (hn : 100 ≤ nf) :
    mach_Code_l2 nf p t g0 nf (T.map rend0) begins (wants T 0) (p.getD t.toNat B0) 0 = g0 ((T ++ blockT t (p.getD t.toNat B0)).map rend0) begins (wants (T ++ blockT t (p.getD t.toNat B0)) 0) (t + 1) := by
  have hp8 := hP.p8
  have hm := getD_mem (l := p) (d := B0) ht.1 ht.2
  obtain ⟨g1, g2, g3, g4, g5⟩ := blockCode_ok (hP.ok _ hm)
  have hsh := hP.short _ hm
  have hn6 := hP.n6
  have hB : p.getD t.toNat ([], 0, 0, 0, ()) = p.getD t.toNat B0 := rfl
  have hbl : (blockT t (p.getD t.toNat B0)).length = ((p.getD t.toNat B0).1.flatMap stepB).length + ((testT (p.getD t.toNat B0)).length + (goT t (p.getD t.toNat B0)).length) := by simp [blockT]
  have hsne : ∀ s : Step6, (!(stepB s).isEmpty) = true := fun s => by unfold stepB; split; rfl; split <;> rfl
  obtain ⟨fu', c, hc, e⟩ := loop_inv (n := ((p.getD t.toNat B0).1.length : Int)) (F := fun fu k (c : List Int) => mach_Code_l2 nf p t g0 fu c begins (wants T 0) (p.getD t.toNat B0) k)
    (fun k c => c = (T ++ (((p.getD t.toNat B0).1.take k.toNat).flatMap stepB).map Tok.b).map rend0) (fun fu k c h0 h1 hI => by
      subst hI
      have hs := stepsGo_all g1 _ (getD_mem (d := ((0, 0, 0, 0, 0, ()) : Step6)) h0 h1)
      have hlt : k.toNat < (p.getD t.toNat B0).1.length := by omega
      refine ⟨_, ?_, rfl⟩
      show mach_Code_l2 nf p t g0 (fu + 1) _ begins (wants T 0) (p.getD t.toNat B0) k = _
      have htk := steps_len ((p.getD t.toNat B0).1.take k.toNat)
      have htl : ((p.getD t.toNat B0).1.take k.toNat).length ≤ 20 := by rw [List.length_take]; omega
      have hsl := stepB_len ((p.getD t.toNat B0).1.getD k.toNat (0, 0, 0, 0, 0, ()))
      have hle : (!(stepB ((p.getD t.toNat B0).1.getD k.toNat (0, 0, 0, 0, 0, ()))).isEmpty && Nat.ble (((T ++ (((p.getD t.toNat B0).1.take k.toNat).flatMap stepB).map Tok.b).map rend0).length + (stepB ((p.getD t.toNat B0).1.getD k.toNat (0, 0, 0, 0, 0, ()))).length) lim) = true := by
        rw [hsne, ble_ok (by simp only [List.length_map, List.length_append]; omega)]; rfl
      rw [mach_Code_l2, mach_Code_b2, hB, inb_ok h0 h1, mstep_F hn6 hs, Option.bind_some, hle, wr64 (x := k + 1) (by omega) (by omega)]
      simp only [h1, decide_true, cond_true]
      have e2 : ((T ++ (((p.getD t.toNat B0).1.take k.toNat).flatMap stepB).map Tok.b).map rend0) ++ stepB ((p.getD t.toNat B0).1.getD k.toNat (0, 0, 0, 0, 0, ())) = (T ++ (((p.getD t.toNat B0).1.take (k + 1).toNat).flatMap stepB).map Tok.b).map rend0 := by
        rw [show (k + 1).toNat = k.toNat + 1 by omega, List.take_add_one, List.getElem?_eq_getElem hlt]
        have eg := getD_get (d := ((0, 0, 0, 0, 0, ()) : Step6)) hlt
        rw [eg]
        simp only [List.flatMap_append, List.map_append, Option.toList_some, List.flatMap_cons, List.flatMap_nil, List.append_nil, rend_b, List.append_assoc]
      rw [e2]) nf 0 (T.map rend0) (Int.le_refl _) (by omega) (by omega) (by simp)
  have e : mach_Code_l2 nf p t g0 nf (T.map rend0) begins (wants T 0) (p.getD t.toNat B0) 0 = mach_Code_l2 nf p t g0 (fu' + 1) c begins (wants T 0) (p.getD t.toNat B0) ((p.getD t.toNat B0).1.length : Int) := e
  rw [Int.toNat_natCast, List.take_length] at hc
  obtain ⟨T1, hT1⟩ : ∃ T1, T1 = T ++ ((p.getD t.toNat B0).1.flatMap stepB).map Tok.b := ⟨_, rfl⟩
  have hl1 : T1.length = T.length + ((p.getD t.toNat B0).1.flatMap stepB).length := by rw [hT1]; simp
  have hw1 : wants T 0 = wants T1 0 := by rw [hT1, wants_app, wants_b, List.append_nil]
  have hbk : T ++ blockT t (p.getD t.toNat B0) = T1 ++ (testT (p.getD t.toNat B0) ++ goT t (p.getD t.toNat B0)) := by rw [hT1, blockT, List.append_assoc]
  have htl := testT_len (p.getD t.toNat B0)
  have hgl := goT_len t (p.getD t.toNat B0)
  rw [e, hc, ← hT1, hw1, hbk, mach_Code_l2, mach_Code_b2, hB, wr64 (x := t + 1) (by omega) (by omega)]
  simp only [Int.lt_irrefl, decide_false, cond_false]
  have fin : ∀ T2 : List Tok, T2.length ≤ 255 → (bif decide ((p.getD t.toNat B0).2.2.1 < 0) then bif !List.isEmpty [(0 : Int)] && Nat.ble ((T2.map rend0).length + [(0 : Int)].length) lim then g0 (T2.map rend0 ++ [0]) begins (wants T2 0) (t + 1) else none
      else bif (p.getD t.toNat B0).2.2.1 != t + 1 then Option.bind (mach_Code_1_f nf 64 (p.getD t.toNat B0).2.2.1 (wants T2 0) (T2.map rend0)) fun r9 => Option.bind r9.1 fun r10 => Option.bind r9.2.1 fun r11 => g0 r11 begins r10 (t + 1) else g0 (T2.map rend0) begins (wants T2 0) (t + 1)) =
      g0 ((T2 ++ goT t (p.getD t.toNat B0)).map rend0) begins (wants (T2 ++ goT t (p.getD t.toNat B0)) 0) (t + 1) := fun T2 h2 => by
    unfold goT
    by_cases d1 : (p.getD t.toNat B0).2.2.1 < 0
    · have hb : (!List.isEmpty [(0 : Int)] && Nat.ble ((T2.map rend0).length + [(0 : Int)].length) lim) = true := by rw [ble_ok (by simp; omega)]; rfl
      rw [if_pos d1, decide_eq_true d1, cond_true, hb, cond_true, wants_app]
      simp [wants, rend]
    · rw [if_neg d1, decide_eq_false d1, cond_false]
      by_cases d2 : (p.getD t.toNat B0).2.2.1 = t + 1
      · rw [if_pos d2, d2]
        simp
      · rw [if_neg d2, bne_t d2, cond_true, to_F h2]
        simp only [Option.bind_some]
  by_cases t0 : (p.getD t.toNat B0).2.1 ≥ 0
  · have hT : testT (p.getD t.toNat B0) = [.b (72 + (p.getD t.toNat B0).2.1), .lo (p.getD t.toNat B0).2.2.2.1, .hi (p.getD t.toNat B0).2.2.2.1] := if_pos t0
    rw [decide_eq_true t0, cond_true, wr64 (x := 72 + (p.getD t.toNat B0).2.1) (by omega) (by omega), wr8 (x := 72 + (p.getD t.toNat B0).2.1) (by omega) (by omega), to_F (by omega)]
    simp only [Option.bind_some]
    rw [hT, ← List.append_assoc]
    exact fin _ (by simp only [List.length_append, List.length_cons, List.length_nil]; omega)
  · have hT : testT (p.getD t.toNat B0) = [] := if_neg t0
    rw [decide_eq_false t0, cond_false, hT, List.nil_append]
    exact fin _ (by omega)

theorem code_F (hP : PG n p) (hl : (toks p 0).length ≤ 250) (hn : 500 ≤ nf) : mach_Code_l0 nf p nf [] [] [] 0 = some (bytesP p, 0, ()) := by
  have hp8 := hP.p8
  obtain ⟨fu', s, hs, e⟩ := loop_inv (n := (p.length : Int)) (F := fun fu t (s : List Int × List Int × List (Int × Int)) => mach_Code_l0 nf p fu s.1 s.2.1 s.2.2 t)
    (fun t s => s = ((toks (p.take t.toNat) 0).map rend0, begs (p.take t.toNat) 0 0, wants (toks (p.take t.toNat) 0) 0)) (fun fu t s h0 h1 hI => by
      subst hI
      refine ⟨_, ?_, rfl⟩
      have hB : p.getD t.toNat ([], 0, 0, 0, ()) = p.getD t.toNat B0 := rfl
      have hlt : t.toNat < p.length := by omega
      have htake : p.take (t + 1).toNat = p.take t.toNat ++ [p.getD t.toNat B0] := by
        rw [show (t + 1).toNat = t.toNat + 1 by omega, List.take_add_one, List.getElem?_eq_getElem hlt]
        simp [List.getD, hlt]
      have htk : toks (p.take (t + 1).toNat) 0 = toks (p.take t.toNat) 0 ++ blockT t (p.getD t.toNat B0) := by
        rw [htake, toks_app, toks, toks, take_len h0 h1, List.append_nil, Int.zero_add]
      have hbg : begs (p.take (t + 1).toNat) 0 0 = begs (p.take t.toNat) 0 0 ++ [((toks (p.take t.toNat) 0).length : Int)] := by
        rw [htake, begs_app, begs, begs, Int.zero_add]
      have hll : (toks (p.take t.toNat) 0).length + (blockT t (p.getD t.toNat B0)).length ≤ 250 := by
        have := toks_split h0 h1
        have h3 : (toks p 0).length = _ := congrArg List.length this
        simp only [List.length_append] at h3
        unfold ahead at h3
        omega
      have hb : (bimp false (!List.isEmpty [(((toks (p.take t.toNat) 0).map rend0).length : Int)]) && Nat.ble ((begs (p.take t.toNat) 0 0).length + [(((toks (p.take t.toNat) 0).map rend0).length : Int)].length) lim) = true := by
        rw [ble_ok (by rw [begs_len]; simp; omega)]; rfl
      show mach_Code_l0 nf p (fu + 1) _ _ _ t = _
      rw [mach_Code_l0, mach_Code_b0, inb_ok h0 h1, hB]
      simp only [h1, decide_true, cond_true]
      rw [hb, cond_true, code_l2 hP ⟨h0, h1⟩ hll (by omega), htk, hbg, List.length_map]) nf 0 ([], [], []) (Int.le_refl _) (by omega) (by omega) (by simp [toks, begs, wants])
  have e : mach_Code_l0 nf p nf [] [] [] 0 = mach_Code_l0 nf p (fu' + 1) s.1 s.2.1 s.2.2 (p.length : Int) := e
  rw [Int.toNat_natCast, List.take_length] at hs
  subst hs
  rw [e, mach_Code_l0, mach_Code_b0]
  simp only [Int.lt_irrefl, decide_false, cond_false]
  have hT := pair_toks p 0
  rw [← pat_none (adOf p) hT]
  refine code_l5 (want := []) hT (by omega) (fun j h0 h1 => ?_) (fun j hj => ?_) nf _ (wants_nodup _ _) (fun x hx => hx) ?_
  · rw [begs_len] at h1
    have h2 := beg_at h0 h1
    have h3 := congrArg List.length (toks_split h0 h1)
    simp only [List.length_append] at h3
    unfold adOf
    exact ⟨rfl, by omega, by omega⟩
  · rw [begs_len]; exact toks_lo p 0 hP.ok j hj
  · have : ∀ (T : List Tok) (q : Int), (wants T q).length ≤ T.length := by
      intro T
      induction T with
      | nil => intro q; exact Nat.le_refl _
      | cons x T ih => intro q; have := ih (q + 1); cases x <;> simp only [wants, List.length_cons] <;> omega
    have := this (toks p 0) 0
    omega
end Go.Proofs.Ytokjogplnoeicaa
