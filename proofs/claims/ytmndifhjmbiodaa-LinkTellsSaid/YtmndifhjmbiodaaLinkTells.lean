/- link.Link and the document's answer agree. -/
import Derived.Test.YtmndifhjmbiodaaLinkRef
namespace Go.Proofs.Ytmndifhjmbiodaa
open Go Go.Ab S
variable {nf : Nat}

def put (B : List Int) (k a : Int) : List Int := (B.set k.toNat (IntKind.u8.wrap a)).set (k + 1).toNat (IntKind.u8.wrap (shrI .i64 a 8))
def patch (L : List Ob) (ws : List Pt) (B : List Int) : List Int := ws.foldl (fun B w => put B w.2.1 (adr L w.1)) B
def known (L : List Ob) (ws : List Pt) : Bool := ws.all fun w => (loc L 0 0 w.1).isSome
def cat (r : List Ob) : List Int := r.flatMap (·.1)
def catP (L r : List Ob) : List Int := r.flatMap fun o => patch L o.2.2.1 o.1
def knownA (L r : List Ob) : Bool := r.all fun o => known L o.2.2.1

theorem known_cons (L : List Ob) (w : Pt) (ws : List Pt) : known L (w :: ws) = ((loc L 0 0 w.1).isSome && known L ws) := rfl
theorem knownA_cons (L : List Ob) (o : Ob) (r : List Ob) : knownA L (o :: r) = (known L o.2.2.1 && knownA L r) := rfl
theorem put_len (B : List Int) (k a : Int) : (put B k a).length = B.length := by simp [put]
theorem patch_len (L : List Ob) : ∀ (ws : List Pt) (B : List Int), (patch L ws B).length = B.length
  | [], _ => rfl
  | w :: ws, B => by
    have := patch_len L ws (put B w.2.1 (adr L w.1))
    rw [put_len] at this
    exact this
theorem put_mid (A B C : List Int) {k a : Int} (h0 : 0 ≤ k) (h1 : k + 2 ≤ B.length) : put (A ++ (B ++ C)) ((A.length : Int) + k) a = A ++ (put B k a ++ C) := by
  unfold put
  have e1 : ((A.length : Int) + k).toNat = A.length + k.toNat := by omega
  have e2 : ((A.length : Int) + k + 1).toNat = A.length + (k + 1).toNat := by omega
  rw [e1, e2, List.set_append_right _ _ (by omega), List.set_append_right _ _ (by omega), show A.length + k.toNat - A.length = k.toNat by omega, show A.length + (k + 1).toNat - A.length = (k + 1).toNat by omega,
    List.set_append_left _ _ (by omega), List.set_append_left _ _ (by simp; omega)]

theorem low_byte {a : Int} (h : 0 ≤ a) : IntKind.u8.wrap (Int.tmod a 256) = IntKind.u8.wrap a := by
  rw [IntKind.wrap_u8, IntKind.wrap_u8, Int.tmod_eq_emod_of_nonneg h]; omega
theorem high_byte {a : Int} (h : 0 ≤ a) (h2 : a ≤ 2000) : IntKind.u8.wrap (IntKind.i64.wrap (Int.tdiv a 256)) = IntKind.u8.wrap (shrI .i64 a 8) := by
  have e : shrI .i64 a 8 = a / 256 := by
    unfold shrI
    have : (2 : Int) ^ (min (8 : Int).toNat IntKind.i64.bits) = 256 := by decide
    rw [this, Int.fdiv_eq_ediv_of_nonneg _ (by decide)]
  rw [e, Int.tdiv_eq_ediv_of_nonneg h, wr (by omega)]

theorem adr_of {L : List Ob} (hG : Good L) (n : Int) : ((loc L 0 0 n).isSome = true → 0 ≤ adr L n ∧ adr L n ≤ 1000 ∧ ((loc L 0 0 n).map (·.2)).getD 0 = adr L n) ∧ ((loc L 0 0 n).isSome = false → adr L n < 0) := by
  unfold adr
  cases h : loc L 0 0 n with
  | none => exact ⟨fun h => (by cases h), fun _ => by decide⟩
  | some y =>
    have := loc_range L 0 0 n y hG.small hG.place h
    have := hG.len
    exact ⟨fun _ => ⟨by simp only; omega, by simp only; omega, rfl⟩, fun h => (by cases h)⟩

/-- the document -/
def stepR (nf : Nat) (L : List Ob) (w : Pt) (_ : Int) (b : List Int) (g : List Int → Option (List Int × Bool × Unit)) : Option (List Int × Bool × Unit) :=
  Option.bind (ref_Address_f nf L w.1) fun r => bif decide (r.1 < 0) then some ([], false, ()) else bif inb w.2.1 b.length then
    (bif inb (IntKind.i64.wrap (w.2.1 + 1)) (b.set w.2.1.toNat (IntKind.u8.wrap (Int.tmod r.1 256))).length then g ((b.set w.2.1.toNat (IntKind.u8.wrap (Int.tmod r.1 256))).set (IntKind.i64.wrap (w.2.1 + 1)).toNat (IntKind.u8.wrap (IntKind.i64.wrap (Int.tdiv r.1 256)))) else none) else none

theorem goR {L : List Ob} (hG : Good L) (hn : 300 ≤ nf) {fin : List Int → Option (List Int × Bool × Unit)} : ∀ (ws : List Pt) (k : Int) (b : List Int), b.length ≤ 200 → (∀ w ∈ ws, 0 ≤ w.2.1 ∧ w.2.1 + 2 ≤ (b.length : Int)) →
    goL (stepR nf L) fin ws k b = if known L ws = true then fin (patch L ws b) else some ([], false, ())
  | [], _, _, _, _ => rfl
  | w :: ws, k, b, hb, hw => by
    obtain ⟨w0, w1⟩ := hw w (by simp)
    have hA := adr_of hG w.1
    simp only [goL, stepR]
    rw [address_F hG w.1 hn, Option.bind_some]
    rw [known_cons]
    rcases (Bool.eq_false_or_eq_true (loc L 0 0 w.1).isSome).symm with hk | hk <;> rw [hk]
    · rw [decide_eq_true (hA.2 hk)]
      rfl
    · skip
      obtain ⟨a0, a1, _⟩ := hA.1 hk
      rw [decide_eq_false (by omega), cond_false, inb_ok w0 (by omega), cond_true, wr (by omega), inb_ok (by omega) (by rw [List.length_set]; omega), cond_true, low_byte a0, high_byte a0 (by omega), Bool.true_and]
      have := goR hG hn (fin := fin) ws (k + 1) (put b w.2.1 (adr L w.1)) (by rw [put_len]; exact hb) (fun z hz => by rw [put_len]; exact hw z (by simp [hz]))
      exact this

def stepQ (nf : Nat) (L : List Ob) (o : Ob) (_ : Int) (out : List Int) (g : List Int → Option (List Int × Bool × Unit)) : Option (List Int × Bool × Unit) :=
  goL (stepR nf L) (fun b => bif (out.length + b.length).ble lim then g (out ++ b) else none) o.2.2.1 0 o.1

theorem goQ {L : List Ob} (hG : Good L) (hn : 300 ≤ nf) : ∀ (r : List Ob) (i : Int) (out : List Int), (∀ o ∈ r, big o = false) → (∀ o ∈ r, badO o = false) → out.length + 200 * r.length ≤ 2000 →
    goL (stepQ nf L) (fun out => some (out, true, ())) r i out = if knownA L r = true then some (out ++ catP L r, true, ()) else some ([], false, ())
  | [], _, out, _, _, _ => by simp [goL, knownA, catP]
  | o :: r, i, out, hb, hp, hl => by
    obtain ⟨l1, l2, l3⟩ := big_len (hb o (by simp))
    simp only [List.length_cons] at hl
    simp only [goL, stepQ]
    rw [goR hG hn o.2.2.1 0 o.1 l1 (badO_W (hp o (by simp)))]
    rw [knownA_cons]
    rcases (Bool.eq_false_or_eq_true (known L o.2.2.1)).symm with hk | hk <;> rw [hk]
    · rfl
    · skip
      have hpl := patch_len L o.2.2.1 o.1
      rw [if_pos rfl, ble_ok (by omega), cond_true, goQ hG hn r (i + 1) _ (fun z hz => hb z (by simp [hz])) (fun z hz => hp z (by simp [hz])) (by rw [List.length_append]; omega), Bool.true_and]
      rw [show catP L (o :: r) = patch L o.2.2.1 o.1 ++ catP L r by simp [catP], List.append_assoc]

theorem linked_F {L : List Ob} (hG : Good L) (hn : 300 ≤ nf) : ref_Linked_f nf L = some (if knownA L L = true then (catP L L, true, ()) else ([], false, ())) := by
  unfold ref_Linked_f ref_Linked_p
  have h5 := hG.len
  have e := goQ hG hn L 0 [] hG.small hG.place (by simp only [List.length_nil]; omega)
  have e1 : ref_Linked_l0 nf L nf [] 0 = goL (stepQ nf L) (fun out => some (out, true, ())) L 0 [] := by
    exact loop_all (l := L) (d := ([], [], [], ())) (F := fun fu i (s : List Int) => ref_Linked_l0 nf L fu s i) (fun fu i s i0 i1 => by
      have hb := big_len (hG.small (ob L i) (getD_mem i0 i1))
      have hml : (ob L i).2.2.1.length ≤ maxLen := Nat.le_trans hb.2.2 (by decide)
      simp only [ref_Linked_l0, ref_Linked_b0, i1, decide_true, cond_true, inb_ok i0 i1]
      rw [show L.getD i.toNat ([], [], [], ()) = ob L i from rfl]
      rw [show (bimp false !List.isEmpty (ob L i).1 && ((List.length ([] : List Unit)) + List.length (ob L i).1).ble lim) = true from (by
        have : ((List.length ([] : List Unit)) + List.length (ob L i).1).ble lim = true := ble_ok (by simp only [List.length_nil]; omega)
        rw [this]; rfl), cond_true, List.nil_append]
      exact loop_all (l := (ob L i).2.2.1) (d := (0, 0, ())) (F := fun fu2 k (b : List Int) => ref_Linked_l2 nf L i (fun out t => ref_Linked_l0 nf L fu out t) fu2 s (ob L i) b k) (step := stepR nf L) (fin := fun b => bif (s.length + b.length).ble lim then ref_Linked_l0 nf L fu (s ++ b) (i + 1) else none) (fun fu2 k b k0 k1 => by
        simp only [ref_Linked_l2, ref_Linked_b2]
        rw [show L.getD i.toNat ([], [], [], ()) = ob L i from rfl]
        simp only [k1, decide_true, cond_true, inb_ok k0 k1, wrap_step k0 k1 hml]
        rfl) (fun fu2 k b k1 => by
        subst k1
        simp only [ref_Linked_l2, ref_Linked_b2]
        rw [show L.getD i.toNat ([], [], [], ()) = ob L i from rfl]
        simp only [Int.lt_irrefl, decide_false, cond_false, wrap_step i0 i1 (Nat.le_trans h5 (by decide))]
        rfl) nf (ob L i).1 (by omega)) (fun fu i s i1 => by
      subst i1
      simp only [ref_Linked_l0, ref_Linked_b0, Int.lt_irrefl, decide_false, cond_false]) nf [] (by omega)
  simp only
  rw [e1, e, List.nil_append]
  split <;> rfl

/-- the code -/
def stepW (L : List Ob) (T : Tb) (i : Int) (w : Pt) (_ : Int) (out : List Int) (g : List Int → Option (List Int × Int × Unit)) : Option (List Int × Int × Unit) :=
  bif !(loc L 0 0 w.1).isSome then some ([], 5, ()) else bif inb i T.1.length then
    (bif inb (IntKind.i64.wrap (T.1.getD i.toNat 0 + w.2.1)) out.length then
      (bif inb (IntKind.i64.wrap (IntKind.i64.wrap (T.1.getD i.toNat 0 + w.2.1) + 1)) (out.set (IntKind.i64.wrap (T.1.getD i.toNat 0 + w.2.1)).toNat (IntKind.u8.wrap (((loc L 0 0 w.1).map (·.2)).getD 0))).length then
        g ((out.set (IntKind.i64.wrap (T.1.getD i.toNat 0 + w.2.1)).toNat (IntKind.u8.wrap (((loc L 0 0 w.1).map (·.2)).getD 0))).set (IntKind.i64.wrap (IntKind.i64.wrap (T.1.getD i.toNat 0 + w.2.1) + 1)).toNat (IntKind.u8.wrap (shrI .i64 (((loc L 0 0 w.1).map (·.2)).getD 0) 8))) else none) else none) else none

theorem goW {L : List Ob} (hG : Good L) {T : Tb} {i : Int} {A C : List Int} (hi : 0 ≤ i ∧ i < T.1.length) (hA : T.1.getD i.toNat 0 = A.length) (hAl : A.length ≤ 2000) {fin : List Int → Option (List Int × Int × Unit)} : ∀ (ws : List Pt) (k : Int) (B : List Int), B.length ≤ 200 → (∀ w ∈ ws, 0 ≤ w.2.1 ∧ w.2.1 + 2 ≤ (B.length : Int)) →
    goL (stepW L T i) fin ws k (A ++ (B ++ C)) = if known L ws = true then fin (A ++ (patch L ws B ++ C)) else some ([], 5, ())
  | [], _, _, _, _ => rfl
  | w :: ws, k, B, hb, hw => by
    obtain ⟨w0, w1⟩ := hw w (by simp)
    have hAd := adr_of hG w.1
    simp only [goL, stepW]
    rw [known_cons]
    rcases (Bool.eq_false_or_eq_true (loc L 0 0 w.1).isSome).symm with hk | hk <;> rw [hk]
    · rfl
    · skip
      obtain ⟨a0, a1, a2⟩ := hAd.1 hk
      have hlen : (A ++ (B ++ C)).length = A.length + (B.length + C.length) := by simp
      rw [Bool.not_true, cond_false, inb_ok hi.1 hi.2, cond_true, hA, wr (x := (A.length : Int) + w.2.1) (by omega), inb_ok (by omega) (by rw [hlen]; omega), cond_true, wr (x := (A.length : Int) + w.2.1 + 1) (by omega), inb_ok (by omega) (by rw [List.length_set, hlen]; omega), cond_true, a2, Bool.true_and]
      have := goW hG hi hA hAl (C := C) (fin := fin) ws (k + 1) (put B w.2.1 (adr L w.1)) (by rw [put_len]; exact hb) (fun z hz => by rw [put_len]; exact hw z (by simp [hz]))
      rw [← put_mid A B C w0 w1] at this
      exact this

def stepV (L : List Ob) (T : Tb) (o : Ob) (i : Int) (out : List Int) (g : List Int → Option (List Int × Int × Unit)) : Option (List Int × Int × Unit) := goL (stepW L T i) g o.2.2.1 0 out

theorem goV {L : List Ob} (hG : Good L) {T : Tb} : ∀ (r : List Ob) (i : Int) (A : List Int), 0 ≤ i → T.1.drop i.toNat = ats r (A.length : Int) → (∀ o ∈ r, big o = false) → (∀ o ∈ r, badO o = false) → A.length + 200 * r.length ≤ 2000 →
    goL (stepV L T) (fun out => some (out, 0, ())) r i (A ++ cat r) = if knownA L r = true then some (A ++ catP L r, 0, ()) else some ([], 5, ())
  | [], _, A, _, _, _, _, _ => by simp [goL, knownA, catP, cat]
  | o :: r, i, A, i0, hT, hb, hp, hl => by
    obtain ⟨l1, l2, l3⟩ := big_len (hb o (by simp))
    simp only [List.length_cons] at hl
    simp only [ats] at hT
    have hlt : i.toNat < T.1.length := Decidable.byContradiction fun h => by rw [List.drop_eq_nil_of_le (by omega)] at hT; cases hT
    rw [List.drop_eq_getElem_cons hlt] at hT
    obtain ⟨h1, h2⟩ := List.cons.inj hT
    simp only [goL, stepV]
    rw [show cat (o :: r) = o.1 ++ cat r by simp [cat]]
    rw [goW hG ⟨i0, by omega⟩ (by rw [List.getD_eq_getElem?_getD, List.getElem?_eq_getElem hlt]; exact h1) (by omega) o.2.2.1 0 o.1 l1 (badO_W (hp o (by simp)))]
    rw [knownA_cons]
    rcases (Bool.eq_false_or_eq_true (known L o.2.2.1)).symm with hk | hk <;> rw [hk]
    · rfl
    · skip
      have hpl := patch_len L o.2.2.1 o.1
      have := goV hG (T := T) r (i + 1) (A ++ patch L o.2.2.1 o.1) (by omega) (by rw [show (i + 1).toNat = i.toNat + 1 by omega, h2, List.length_append, hpl]; simp) (fun z hz => hb z (by simp [hz])) (fun z hz => hp z (by simp [hz])) (by rw [List.length_append]; omega)
      rw [if_pos rfl, ← List.append_assoc, this, Bool.true_and]
      rw [show catP L (o :: r) = patch L o.2.2.1 o.1 ++ catP L r by simp [catP], List.append_assoc]

theorem goC : ∀ (r : List Ob) (i : Int) (out : List Int) {fin : List Int → Option (List Int × Int × Unit)}, (∀ o ∈ r, big o = false) → out.length + 200 * r.length ≤ 2000 →
    goL (fun (o : Ob) _ (out : List Int) g => bif (out.length + o.1.length).ble lim then g (out ++ o.1) else none) fin r i out = fin (out ++ cat r)
  | [], _, out, fin, _, _ => by simp [goL, cat]
  | o :: r, i, out, fin, hb, hl => by
    obtain ⟨l1, l2, l3⟩ := big_len (hb o (by simp))
    simp only [List.length_cons] at hl
    simp only [goL]
    rw [ble_ok (by omega), cond_true, goC r (i + 1) (out ++ o.1) (fun z hz => hb z (by simp [hz])) (by rw [List.length_append]; omega)]
    simp [cat]

theorem link_l2 {L : List Ob} (hG : Good L) {T : Tb} (hT : Says T (loc L 0 0)) (hn : 300 ≤ nf) (out : List Int) : link_Link_l2 nf L nf out T 0 = goL (stepV L T) (fun out => some (out, 0, ())) L 0 out := by
  have h5 := hG.len
  exact loop_all (l := L) (d := ([], [], [], ())) (F := fun fu i (s : List Int) => link_Link_l2 nf L fu s T i) (fun fu i s i0 i1 => by
    have hb := big_len (hG.small (ob L i) (getD_mem i0 i1))
    have hml : (ob L i).2.2.1.length ≤ maxLen := Nat.le_trans hb.2.2 (by decide)
    simp only [link_Link_l2, link_Link_b2, i1, decide_true, cond_true, inb_ok i0 i1]
    rw [show L.getD i.toNat ([], [], [], ()) = ob L i from rfl]
    exact loop_all (l := (ob L i).2.2.1) (d := (0, 0, ())) (F := fun fu2 k (b : List Int) => link_Link_l4 nf L i (fun out t x => link_Link_l2 nf L fu out t x) fu2 b (ob L i) T k) (step := stepW L T i) (fin := fun b => link_Link_l2 nf L fu b T (i + 1)) (fun fu2 k b k0 k1 => by
      simp only [link_Link_l4, link_Link_b4]
      rw [show L.getD i.toNat ([], [], [], ()) = ob L i from rfl]
      simp only [k1, decide_true, cond_true, inb_ok k0 k1, both_self, wrap_step k0 k1 hml, (hT _).2, Option.isSome_map]
      rfl) (fun fu2 k b k1 => by
      subst k1
      simp only [link_Link_l4, link_Link_b4]
      rw [show L.getD i.toNat ([], [], [], ()) = ob L i from rfl]
      simp only [Int.lt_irrefl, decide_false, cond_false, wrap_step i0 i1 (Nat.le_trans h5 (by decide))]) nf s (by omega)) (fun fu i s i1 => by
    subst i1
    simp only [link_Link_l2, link_Link_b2, Int.lt_irrefl, decide_false, cond_false]) nf out (by omega)

theorem link_F (L : List Ob) (hn : 300 ≤ nf) : link_Link_f nf L = some (if objCode L = 0 then (if knownA L L = true then (catP L L, 0, ()) else ([], 5, ())) else ([], objCode L, ())) := by
  unfold link_Link_f link_Link_p
  obtain ⟨h1, h2⟩ := build_F L hn
  by_cases hc : objCode L = 0
  · obtain ⟨t, e1, e2, e3⟩ := h1 hc
    have hG := good_of hc
    have h5 := hG.len
    rw [e3, if_pos hc]
    simp only [Option.bind_some, bne_self_eq_false, cond_false]
    have q1 := loop_all (l := L) (d := ([], [], [], ())) (F := fun fu i (s : List Int) => link_Link_l0 nf L fu s t i) (step := fun (o : Ob) _ (out : List Int) g => bif (out.length + o.1.length).ble lim then g (out ++ o.1) else none) (fin := fun out => link_Link_l2 nf L nf out t 0) (fun fu i s i0 i1 => by
      simp only [link_Link_l0, link_Link_b0, i1, decide_true, cond_true, inb_ok i0 i1, wrap_step i0 i1 (Nat.le_trans h5 (by decide))]
      rfl) (fun fu i s i1 => by
      subst i1
      simp only [link_Link_l0, link_Link_b0, Int.lt_irrefl, decide_false, cond_false]) nf [] (by omega)
    rw [show link_Link_l0 nf L nf [] t 0 = _ from q1, goC L 0 [] hG.small (by simp only [List.length_nil]; omega), link_l2 hG e2 hn, goV hG L 0 [] (Int.le_refl _) (by rw [e1]; rfl) hG.small hG.place (by simp only [List.length_nil]; omega)]
    split <;> rfl
  · rw [h2 hc, if_neg hc]
    simp only [Option.bind_some, bne_t hc, cond_true]

theorem bytes_F (a : List Int) (h : a.length < nf) (hm : a.length ≤ maxLen) : ref_Bytes_f nf a a = some (true, ()) := by
  unfold ref_Bytes_f ref_Bytes_p
  simp only [bne_self_eq_false, cond_false]
  have := loop_chk (n := (a.length : Int)) (F := fun fu t => ref_Bytes_l0 nf a a fu t) (yes := some (true, ())) (no := some (false, ())) (fun _ => true) (fun fu t h0 h1 => by
    simp only [ref_Bytes_l0, ref_Bytes_b0, h1, decide_true, cond_true, inb_ok h0 h1, bne_self_eq_false, cond_false, wrap_step h0 h1 hm]) (fun fu => by
    simp only [ref_Bytes_l0, ref_Bytes_b0, Int.lt_irrefl, decide_false, cond_false]) nf 0 (Int.le_refl _) (by omega) (by omega)
  rw [this, show chk (fun _ => true) ((a.length : Int) - 0).toNat 0 = true from chk_iff.2 fun _ _ _ => rfl]
  rfl

theorem catP_len (L : List Ob) : ∀ r : List Ob, (∀ o ∈ r, big o = false) → (catP L r).length ≤ 200 * r.length
  | [], _ => by simp [catP]
  | o :: r, h => by
    have h1 := catP_len L r fun z hz => h z (by simp [hz])
    have h2 := patch_len L o.2.2.1 o.1
    have h3 := (big_len (h o (by simp))).1
    rw [show catP L (o :: r) = patch L o.2.2.1 o.1 ++ catP L r by simp [catP], List.length_append, List.length_cons]
    omega

theorem linkTells_main (L : List Ob) : law_LinkTells_f 3000 L = some (true, ()) := by
  unfold law_LinkTells_f law_LinkTells_p
  rw [link_F L (by omega), check_F L (by omega)]
  simp only [Option.bind_some]
  by_cases hc : objCode L = 0
  · have hG := good_of hc
    have h5 := hG.len
    rw [linked_F hG (by omega)]
    simp only [hc, if_true, bne_self_eq_false, cond_false, Option.bind_some]
    cases hk : knownA L L with
    | false => rfl
    | true =>
      have := catP_len L L hG.small
      simp only [if_true, Bool.not_true, cond_false, beq_self_eq_true, cond_true]
      rw [bytes_F _ (by omega) (by simp [maxLen]; omega)]
      rfl
  · simp [hc, bne_t hc]

theorem linkTells_law (x : denPs (lawPs [.sl (.pair (.sl (.int .u8)) (.pair (.sl (.pair (.int .i64) (.pair (.int .i64) .unit))) (.pair (.sl (.pair (.int .i64) (.pair (.int .i64) .unit))) .unit)))])) (_ : wfPs [.sl (.pair (.sl (.int .u8)) (.pair (.sl (.pair (.int .i64) (.pair (.int .i64) .unit))) (.pair (.sl (.pair (.int .i64) (.pair (.int .i64) .unit))) .unit)))] x) : ∃ n, law_LinkTells_F n x = some (true, ()) := by
  obtain ⟨L, _⟩ := x
  exact ⟨3000, linkTells_main L⟩
end Go.Proofs.Ytmndifhjmbiodaa
