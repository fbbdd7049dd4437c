/- Ways: how many nodes are left when node by node is put into another one. -/
import Derived.Test.YtccbcbhiblohgaaFold
import Derived.Test.YtccbcbhiblohgaaFolded
namespace Go.Proofs.Ytccbcbhiblohgaa
open Go Go.Ab S

variable {next : List (List Int)} {nf : Nat}

/-- the graph at first -/
def g0 (next : List (List Int)) : Gr := (fun x => Come next x, fun a b => a ≠ b ∧ Come next a ∧ b ∈ nexts next a)
theorem g0_good (hW : WayOK next) : (g0 next).Good := by
  refine ⟨come_zero, fun a b h => ⟨h.2.1, come_next hW h.2.1 h.2.2, h.1⟩, fun a ha => ?_⟩
  have key : ∀ j, Path next (-1) 0 j → ComesE (g0 next).2 j := fun j hj => by
    induction hj with
    | here _ => exact .zero
    | @step x j hx hxj _ ih =>
      by_cases he : x = j
      · rw [← he]; exact ih
      · exact .next ih ⟨he, hx, hxj⟩
  exact key a ha

theorem init_l2 (hW : WayOK next) (hn : 20 ≤ nf) (r : List Int × Unit) {l : List Int} {u : Int} (h0 : 0 ≤ u) (ht : u < l.length) (hl : l.length ≤ 8) (hlow : ∀ x ∈ l, 0 ≤ x ∧ x < next.length) {t : M2} (hk : KU (k := K2) (e := Ty.bool) t) (g : List Int → M2 → Int → Option (Int × Unit)) :
    ∃ t' : M2, KU (k := K2) (e := Ty.bool) t' ∧ (∀ a b, tm t' a b = true ↔ tm t a b = true ∨ (a = l.getD u.toNat 0 ∧ b ∈ nexts next a)) ∧ ref_Folded_l2 nf next l u r g nf l t 0 = g l t' (u + 1) := by
  have hj := hlow _ (getD_mem (d := (0 : Int)) h0 ht)
  have hmem := nexts_mem hj.1 hj.2
  have hthin := hW.thin _ hmem
  have hlen : (nexts next (l.getD u.toNat 0)).length ≤ maxLen := Nat.le_trans hthin (by decide)
  obtain ⟨fu', q, ⟨q1, q2, q3⟩, e⟩ := loop_inv (n := ((nexts next (l.getD u.toNat 0)).length : Int)) (F := fun fu v (q : List Int × M2) => ref_Folded_l2 nf next l u r g fu q.1 q.2 v)
    (fun v q => q.1 = l ∧ KU (k := K2) (e := Ty.bool) q.2 ∧ ∀ a b, tm q.2 a b = true ↔ tm t a b = true ∨ (a = l.getD u.toNat 0 ∧ b ∈ (nexts next a).take v.toNat)) (fun fu v q v0 v1 hI => by
      obtain ⟨i1, i2, i3⟩ := hI
      refine ⟨(l, insM K2 Ty.bool q.2 (l.getD u.toNat 0, (nexts next (l.getD u.toNat 0)).getD v.toNat 0, ()) true), ?_, rfl, KU.ins (k := K2) (e := Ty.bool) rfl i2, fun a b => ?_⟩
      · have hst : ref_Folded_l2 nf next l u r g (fu + 1) q.1 q.2 v = ref_Folded_b2 nf next l u r g (ref_Folded_l2 nf next l u r g fu) q.1 q.2 v := rfl
        unfold ref_Folded_b2 at hst
        have v1' : v < (((next.getD (l.getD u.toNat 0).toNat []).length : Nat) : Int) := v1
        have hlen' : (next.getD (l.getD u.toNat 0).toNat []).length ≤ maxLen := hlen
        simp only [v1', decide_true, cond_true, inb_ok v0 v1', wrap_step v0 v1' hlen'] at hst
        rw [hst, i1]; rfl
      · show tm (insM K2 Ty.bool q.2 (l.getD u.toNat 0, (nexts next (l.getD u.toNat 0)).getD v.toNat 0, ()) true) a b = true ↔ _
        rw [tm_ins]
        have hsn := take_snoc (d := (0 : Int)) v0 v1
        constructor
        · intro h
          split at h
          · rename_i hc
            refine .inr ⟨hc.1, ?_⟩
            rw [hc.1, hsn, hc.2]; simp
          · rcases (i3 a b).1 h with h | ⟨h1, h2⟩
            · exact .inl h
            · refine .inr ⟨h1, ?_⟩
              rw [h1] at h2 ⊢
              rw [hsn]; exact List.mem_append_left _ h2
        · rintro (h | ⟨h1, h2⟩)
          · split
            · rfl
            · exact (i3 a b).2 (.inl h)
          · rw [h1, hsn] at h2
            rcases List.mem_append.1 h2 with h2 | h2
            · split
              · rfl
              · exact (i3 a b).2 (.inr ⟨h1, by rw [h1]; exact h2⟩)
            · rw [List.mem_singleton] at h2
              rw [if_pos ⟨h1, h2⟩]) nf 0 (l, t) (by omega) (by omega) (by omega) ⟨rfl, hk, fun a b => by simp⟩
  rw [Int.toNat_natCast] at q3
  refine ⟨q.2, q2, fun a b => ?_, ?_⟩
  · rw [q3]
    constructor
    · rintro (h | ⟨h1, h2⟩)
      · exact .inl h
      · exact .inr ⟨h1, List.mem_of_mem_take h2⟩
    · rintro (h | ⟨h1, h2⟩)
      · exact .inl h
      · refine .inr ⟨h1, ?_⟩
        rw [h1] at h2 ⊢
        rw [List.take_length]; exact h2
  · rw [show ref_Folded_l2 nf next l u r g nf l t 0 = _ from e, ref_Folded_l2, q1]
    unfold ref_Folded_b2
    simp only [nexts, Int.lt_irrefl, decide_false, cond_false, wrap_step h0 ht (Nat.le_trans hl (by decide))]

theorem folded_F (hW : WayOK next) (hn : 100 ≤ nf) : ∃ (k : Nat) (h : Gr) (l' : List Int) (t' : M2), Redu (g0 next) k h ∧ h.Stuck ∧ RepR next.length h l' t' ∧ ref_Folded_f nf next = some ((l'.length : Int), ()) := by
  have h8 := hW.few
  have hz := zero_good hW
  have hN := reach_nodes (nf := nf) (wo := -1) hW hz
  have hrl := hN.len
  obtain ⟨l, hl⟩ : ∃ l, l = reach nf next 0 (-1) := ⟨_, rfl⟩
  have hmem : ∀ x, x ∈ l ↔ Come next x := fun x => by rw [hl]; exact mem_reach (nf := nf) (wo := -1) hW (by omega) hz x
  rw [← hl] at hN hrl
  obtain ⟨fu', q, ⟨q1, q2, q3⟩, e⟩ := loop_inv (n := (l.length : Int)) (F := fun fu u (q : List Int × M2) => ref_Folded_l0 nf next (l, ()) fu q.1 q.2 u)
    (fun u q => q.1 = l ∧ KU (k := K2) (e := Ty.bool) q.2 ∧ ∀ a b, tm q.2 a b = true ↔ a ∈ l.take u.toNat ∧ b ∈ nexts next a) (fun fu u q u0 u1 hI => by
      obtain ⟨i1, i2, i3⟩ := hI
      have hj := hN.good _ (getD_mem (d := (0 : Int)) u0 u1)
      obtain ⟨t', r1, r2, r3⟩ := init_l2 (nf := nf) hW (by omega) (l, ()) u0 u1 (by omega) (fun x hx => hN.good x hx) i2 (fun left t t26 => ref_Folded_l0 nf next (l, ()) fu left t t26)
      refine ⟨(l, t'), ?_, rfl, r1, fun a b => ?_⟩
      · have hst : ref_Folded_l0 nf next (l, ()) (fu + 1) q.1 q.2 u = ref_Folded_b0 nf (fun _ p1 p2 _ v0 v1 v2 => ref_Folded_l2 nf next p1 p2 (l, ()) (fun left t t26 => ref_Folded_l0 nf next (l, ()) fu left t t26) nf v0 v1 v2) (fun v0 v1 => ref_Folded_l4 nf nf v0 v1) next (l, ()) (ref_Folded_l0 nf next (l, ()) fu) q.1 q.2 u := rfl
        unfold ref_Folded_b0 at hst
        rw [i1] at hst
        simp only [List.nil_append, u1, decide_true, cond_true, inb_ok u0 u1, inb_ok hj.1 hj.2] at hst
        rw [i1, hst]; exact r3
      · rw [r2, i3, take_snoc (d := (0 : Int)) u0 u1, List.mem_append, List.mem_singleton]
        constructor
        · rintro (⟨h1, h2⟩ | ⟨h1, h2⟩)
          · exact ⟨.inl h1, h2⟩
          · exact ⟨.inr h1, h2⟩
        · rintro ⟨h1 | h1, h2⟩
          · exact .inl ⟨h1, h2⟩
          · exact .inr ⟨h1, h2⟩) nf 0 (l, []) (by omega) (by omega) (by omega) ⟨rfl, by simp [KU], fun a b => by simp [tm, getM]⟩
  rw [Int.toNat_natCast, List.take_length] at q3
  have hrep : RepR next.length (g0 next) l q.2 := ⟨hN.once, hmem, hN.good, q2, fun a b ha _ hab => by
    rw [q3, hmem]
    exact ⟨fun ⟨h1, h2⟩ => ⟨hab, h1, h2⟩, fun ⟨_, h1, h2⟩ => ⟨h1, h2⟩⟩⟩
  obtain ⟨k, h, l', t', r1, r2, r3, r4⟩ := folded_l4 (nf := nf) h8 (by omega) nf (g0 next) l q.2 (g0_good hW) hrep (by omega)
  refine ⟨k, h, l', t', r1, r2, r3, ?_⟩
  have hble : (0 + l.length).ble lim = true := ble_ok (by omega)
  simp only [ref_Folded_f, ref_Folded_p, reach_F hW (show 12 ≤ nf by omega) hz, Option.bind_some, ← hl, bimp, List.length_nil, hble, Bool.and_true, List.nil_append]
  show ref_Folded_l0 nf next (l, ()) nf l [] 0 = _
  rw [show ref_Folded_l0 nf next (l, ()) nf l [] 0 = _ from e, ref_Folded_l0, q1]
  unfold ref_Folded_b0
  simp only [List.nil_append, Int.lt_irrefl, decide_false, cond_false]
  exact r4

theorem foldP_F (hW : WayOK next) (hn : 100 ≤ nf) (hc : wayCode next = 0) : ∃ (k : Nat) (h : Gr) (F' : List Int) (L' : Int), Redu (g0 next) k h ∧ h.Stuck ∧ Rep next.length h F' L' ∧ loop_Fold_f nf next = some (((cnt (bt L') 32 : Nat) : Int), 0, ()) := by
  have h8 := hW.few
  have hz := zero_good hW
  obtain ⟨fr, f1, f2⟩ := to_F (nf := nf) hW hn
  have hrw := fun k => reachw (nf := nf) (wo := -1) hW hz k
  have hrep : Rep next.length (g0 next) fr (wd (reach nf next 0 (-1))) := by
    refine ⟨f1.1, fun b hb => ?_, (hrw 0).1, fun x => ?_, fun a ha => come_good hW ha, fun b hb a => ?_⟩
    · have := (f1.2 b (by omega) (by omega)).1
      rwa [Int.toNat_natCast] at this
    · rw [(hrw x).2, decide_eq_true_eq]
      exact mem_reach (nf := nf) (wo := -1) hW (by omega) hz x
    · have hbl := come_good hW hb
      have := (f1.2 b (by omega) hbl.2).2 a
      rw [Int.toNat_natCast] at this
      rw [this]
      show _ ↔ ((a : Int) ≠ b ∧ Come next a ∧ (b : Int) ∈ nexts next a)
      constructor
      · rintro ⟨h1, h2, h3⟩; exact ⟨by omega, h2, h3⟩
      · rintro ⟨h1, h2, h3⟩; exact ⟨by omega, h2, h3⟩
  have hcn : cnt (bt (wd (reach nf next 0 (-1)))) 32 ≤ 32 := cnt_n _ _
  obtain ⟨k, h, F', L', r1, r2, r3, r4⟩ := fold_l0 (nf := nf) (n := next.length) rfl h8 (by omega) nf (g0 next) fr _ (g0_good hW) hrep (by omega)
  refine ⟨k, h, F', L', r1, r2, r3, ?_⟩
  simp only [loop_Fold_f, loop_Fold_p, way_Check_F (show 9 ≤ nf by omega), hc, Option.bind_some, bne_self_eq_false, cond_false, f2, from_F hW (show 12 ≤ nf by omega) hz]
  exact r4

theorem loopFolds_main (hn : 100 ≤ nf) (next : List (List Int)) : law_LoopFolds_f nf next = some (true, ()) := by
  simp only [law_LoopFolds_f, law_LoopFolds_p, ref_WayCheck_F (show 9 ≤ nf by omega)]
  by_cases hc : wayCode next = 0
  · have hW := wayCode_ok hc
    have h8 := hW.few
    obtain ⟨k, h, F', L', r1, r2, r3, r4⟩ := foldP_F (nf := nf) hW hn hc
    obtain ⟨k', h', l', t', s1, s2, s3, s4⟩ := folded_F (nf := nf) hW hn
    have he := r1.one (g0_good hW) r2 s1 s2
    subst he
    have hcnt : cnt (bt L') 32 = l'.length := by
      rw [← cnt_list l' 32 s3.once fun x hx => by have := s3.low x hx; omega]
      refine cnt_congr fun x _ => ?_
      rw [Bool.eq_iff_iff, r3.left, decide_eq_true_eq, s3.mem]
    rw [r4, s4]
    simp only [Option.bind_some, hc, bne_self_eq_false, cond_false, beq_self_eq_true, cond_true, hcnt]
  · simp only [loop_Fold_f, loop_Fold_p, way_Check_F (show 9 ≤ nf by omega), Option.bind_some, bne_t hc, cond_true, beq_self_eq_true]

theorem loopFolds_law (x : denPs (lawPs [.sl (.sl (.int .i64))])) (_ : wfPs [.sl (.sl (.int .i64))] x) : ∃ n, law_LoopFolds_F n x = some (true, ()) := by
  obtain ⟨next, _⟩ := x
  exact ⟨100, loopFolds_main (by omega) next⟩
end Go.Proofs.Ytccbcbhiblohgaa
