/- term.Fold and the document's answer agree. -/
import Derived.Test.YtpnganfbonlphaaComes
import Derived.Test.YtpnganfbonlphaaOuts
import Derived.Test.YtpnganfbonlphaaValue
namespace Go.Proofs.Ytpnganfbonlphaa
open Go Go.Ab S

abbrev T0 : Term5 := (0, 0, 0, 0, ())

/-- a sound term, with j terms ahead of it -/
structure TOK (vars : Int) (j : Nat) (t : Term5) : Prop where
  lo : 1 ≤ t.1
  hi : t.1 ≤ 6
  one : t.1 = 1 → isV t.2.2.2.1
  two : t.1 = 2 → 0 ≤ t.2.2.2.1 ∧ t.2.2.2.1 < vars
  more : t.1 > 2 → 0 ≤ t.2.1 ∧ t.2.1 < j ∧ 0 ≤ t.2.2.1 ∧ t.2.2.1 < j

theorem tok_of {vars : Int} : ∀ (r : List Term5) (n : Nat), termGo vars r n = 0 → ∀ i, i < r.length → TOK vars (n + i) (r.getD i T0)
  | (op, a, b, k, _) :: r, n, h, i, hi => by
    obtain ⟨h1, h2, h3, h4, h5, h6⟩ := termGo_cons h
    cases i with
    | zero => exact ⟨h1, h2, h3, h4, fun ho => by have := h5 ho; simp; omega⟩
    | succ i =>
      have := tok_of r (n + 1) (by simpa using h6) i (by simpa using hi)
      rw [show n + (i + 1) = n + 1 + i by omega]
      simpa using this
theorem of_tok {vars : Int} : ∀ (r : List Term5) (n : Nat), (∀ i, i < r.length → TOK vars (n + i) (r.getD i T0)) → termGo vars r n = 0
  | [], _, _ => rfl
  | (op, a, b, k, _) :: r, n, h => by
    have h0 := h 0 (by simp)
    obtain ⟨h1, h2, h3, h4, h5⟩ := h0
    simp only [List.getD_cons_zero] at h1 h2 h3 h4 h5
    have ih := of_tok r (n + 1) fun i hi => by
      have := h (i + 1) (by simpa using hi)
      rw [show n + 1 + i = n + (i + 1) by omega]
      simpa using this
    have h3' : op = 1 → 0 ≤ k ∧ k ≤ 255 := h3
    simp only [termGo]
    rw [if_neg (by omega), if_neg (by omega), if_neg (by omega)]
    simpa using ih

/-- the values of terms -/
def IsVal (hv : List Int) (l : List Term5) (V : List Int) : Prop := V.length = l.length ∧ ∀ j, j < l.length → V.getD j 0 = valOne hv (l.getD j T0) V

theorem getD_left {v w : List Int} {i : Int} (h0 : 0 ≤ i) (h1 : i < v.length) : (v ++ w).getD i.toNat 0 = v.getD i.toNat 0 := by
  rw [List.getD_eq_getElem?_getD, List.getD_eq_getElem?_getD, List.getElem?_append_left (by omega)]
theorem valOne_app {vars : Int} {hv v w : List Int} {t : Term5} (h : TOK vars v.length t) : valOne hv t (v ++ w) = valOne hv t v := by
  unfold valOne
  split
  · rfl
  · split
    · rfl
    · rename_i h1 h2
      obtain ⟨a, b, c, d⟩ := h.more (by have := h.lo; omega)
      rw [getD_left a b, getD_left c d]

theorem valGo_app (hv : List Int) : ∀ (l : List Term5) (v : List Int), ∃ w, valGo hv l v = v ++ w
  | [], v => ⟨[], by simp [valGo]⟩
  | t :: r, v => by
    obtain ⟨w, h⟩ := valGo_app hv r (v ++ [valOne hv t v])
    exact ⟨[valOne hv t v] ++ w, by rw [valGo, h, List.append_assoc]⟩
theorem valGo_at {vars : Int} (hv : List Int) : ∀ (l : List Term5) (v : List Int), (∀ i, i < l.length → TOK vars (v.length + i) (l.getD i T0)) → ∀ i, i < l.length → (valGo hv l v).getD (v.length + i) 0 = valOne hv (l.getD i T0) (valGo hv l v)
  | t :: r, v, h, i, hi => by
    have h0 := h 0 (by simp)
    cases i with
    | zero =>
      obtain ⟨w, hw⟩ := valGo_app hv r (v ++ [valOne hv t v])
      rw [valGo, hw]
      simp only [List.getD_cons_zero, Nat.add_zero] at h0 ⊢
      rw [List.append_assoc, valOne_app h0]
      simp
    | succ i =>
      have := valGo_at hv r (v ++ [valOne hv t v]) (fun i hi => by
        have := h (i + 1) (by simpa using hi)
        simp only [List.length_append, List.length_singleton]
        rw [show v.length + 1 + i = v.length + (i + 1) by omega]
        simpa using this) i (by simpa using hi)
      rw [valGo]
      simp only [List.length_append, List.length_singleton] at this
      rw [show v.length + (i + 1) = v.length + 1 + i by omega, this]
      rfl
theorem isVal_of {vars : Int} {hv : List Int} {l : List Term5} (h : ∀ i, i < l.length → TOK vars i (l.getD i T0)) : IsVal hv l (valGo hv l []) :=
  ⟨by rw [valGo_len]; simp, fun j hj => by
    have := valGo_at (vars := vars) hv l [] (by simpa using h) j hj
    simpa using this⟩

/-- what is so of the list that is being folded, up to t -/
structure Folding (vars : Int) (l : List Term5) (t : Nat) (m : List Term5) : Prop where
  len : m.length = l.length
  tok : ∀ i, i < m.length → TOK vars i (m.getD i T0)
  val : ∀ hv, (∀ x ∈ hv, isV x) → (hv.length : Int) = vars → IsVal hv m (valGo hv l [])
  done : ∀ j, j < t → (m.getD j T0).1 > 2 → ¬ ((m.getD (m.getD j T0).2.1.toNat T0).1 = 1 ∧ (m.getD (m.getD j T0).2.2.1.toNat T0).1 = 1)

theorem fold_l0 {nf : Nat} {vars : Int} {l : List Term5} (hv0 : 0 ≤ vars) (hl : l.length ≤ 16) (hp : 1 ≤ l.length) (hn : 20 ≤ nf) (u : Unit) : ∀ (fu t : Nat) (m : List Term5), Folding vars l t m → t ≤ l.length → l.length - t < fu →
    ∃ m', Folding vars l l.length m' ∧ term_Fold_l0 nf (l, u) fu m t = term_Fold_l2 nf (need m' ((m'.length : Int) - 1), ()) nf m' (List.replicate m'.length 0) [] (need m' ((m'.length : Int) - 1)) 0
  | 0, t, m, _, _, h => by omega
  | fu + 1, t, m, hS, h0, h1 => by
    have hml := hS.len
    rw [term_Fold_l0, term_Fold_b0]
    by_cases ht : t < l.length
    · have hw : IntKind.i64.wrap ((t : Int) + 1) = ((t + 1 : Nat) : Int) := by rw [Go.IntWalk.i64_in _ (by omega)]; rfl
      have hb : inb (t : Int) m.length = true := inb_ok (by omega) (by omega)
      have htk := hS.tok t (by omega)
      have skip : ((m.getD t T0).1 > 2 → ¬ ((m.getD (m.getD t T0).2.1.toNat T0).1 = 1 ∧ (m.getD (m.getD t T0).2.2.1.toNat T0).1 = 1)) → ∃ m', Folding vars l l.length m' ∧ term_Fold_l0 nf (l, u) fu m ((t + 1 : Nat) : Int) = term_Fold_l2 nf (need m' ((m'.length : Int) - 1), ()) nf m' (List.replicate m'.length 0) [] (need m' ((m'.length : Int) - 1)) 0 := fun hno =>
        fold_l0 hv0 hl hp hn u fu (t + 1) m ⟨hS.len, hS.tok, hS.val, fun j hj => by
          by_cases hjt : j = t
          · subst hjt; exact hno
          · exact hS.done j (by omega)⟩ (by omega) (by omega)
      simp only [show (t : Int) < (l.length : Int) by omega, decide_true, cond_true, hb, Int.toNat_natCast, hw]
      by_cases o : (m.getD t T0).1 > 2
      · obtain ⟨a0, a1, b0, b1⟩ := htk.more o
        have ia : inb (m.getD t T0).2.1 m.length = true := inb_ok a0 (by omega)
        have ib : inb (m.getD t T0).2.2.1 m.length = true := inb_ok b0 (by omega)
        simp only [o, decide_true, cond_true, ia, ib]
        by_cases ca : (m.getD (m.getD t T0).2.1.toNat T0).1 = 1
        · by_cases cb : (m.getD (m.getD t T0).2.2.1.toNat T0).1 = 1
          · have ta := hS.tok (m.getD t T0).2.1.toNat (by omega)
            have tb := hS.tok (m.getD t T0).2.2.1.toNat (by omega)
            have va := ta.one ca
            have vb := tb.one cb
            simp only [ca, cb, beq_self_eq_true, cond_true, do_F (nf := nf) va vb, Option.bind_some]
            have hset : ∀ j, (m.set t (1, 0, 0, opV (m.getD t T0).1 (m.getD (m.getD t T0).2.1.toNat T0).2.2.2.1 (m.getD (m.getD t T0).2.2.1.toNat T0).2.2.2.1, ())).getD j T0 = if j = t then (1, 0, 0, opV (m.getD t T0).1 (m.getD (m.getD t T0).2.1.toNat T0).2.2.2.1 (m.getD (m.getD t T0).2.2.1.toNat T0).2.2.2.1, ()) else m.getD j T0 := fun j => getD_upd (by omega) j
            refine fold_l0 hv0 hl hp hn u fu (t + 1) _ ⟨by simp [hml], fun i hi => ?_, fun hv h2 h3 => ?_, fun j hj ho => ?_⟩ (by omega) (by omega)
            · rw [hset]
              split
              · exact ⟨by simp, by simp, fun _ => opV_isV _ _ _, fun h => by simp at h, fun h => by simp at h⟩
              · exact hS.tok i (by simpa using hi)
            · have hV := hS.val hv h2 h3
              refine ⟨by rw [hV.1]; simp, fun j hj => ?_⟩
              rw [hset]
              split
              · rename_i hjt
                subst hjt
                have e := hV.2 j (by omega)
                have ea := hV.2 (m.getD j T0).2.1.toNat (by omega)
                have eb := hV.2 (m.getD j T0).2.2.1.toNat (by omega)
                have ea' : valOne hv (m.getD (m.getD j T0).2.1.toNat T0) (valGo hv l []) = (m.getD (m.getD j T0).2.1.toNat T0).2.2.2.1 := by unfold valOne; rw [if_pos ca]
                have eb' : valOne hv (m.getD (m.getD j T0).2.2.1.toNat T0) (valGo hv l []) = (m.getD (m.getD j T0).2.2.1.toNat T0).2.2.2.1 := by unfold valOne; rw [if_pos cb]
                rw [e]
                unfold valOne
                rw [if_neg (by omega), if_neg (by omega), ea, eb, ea', eb', if_pos rfl]
              · exact hV.2 j (by simpa using hj)
            · have e1 := hset j
              by_cases hjt : j = t
              · rw [if_pos hjt] at e1; rw [e1] at ho; simp at ho
              · rw [if_neg hjt] at e1
                rw [e1] at ho ⊢
                have htj := (hS.tok j (by omega)).more ho
                have e2 := hset (m.getD j T0).2.1.toNat
                have e3 := hset (m.getD j T0).2.2.1.toNat
                rw [if_neg (by omega)] at e2 e3
                rw [e2, e3]
                exact hS.done j (by omega) ho
          · simp only [ca, beq_self_eq_true, cond_true, beq_f cb, cond_false]
            exact skip fun _ h => cb h.2
        · simp only [beq_f ca, cond_false]
          exact skip fun _ h => ca h.1
      · simp only [o, decide_false, cond_false]
        exact skip fun h => absurd h o
    · have he : t = l.length := by omega
      subst he
      have hlim : (m.length : Int) ≤ (lim : Int) := by have : m.length ≤ lim := Nat.le_trans (hml ▸ hl) (by decide); omega
      refine ⟨m, hS, ?_⟩
      have hL : Low m := low_of (vars := vars) (of_tok m 0 (by simpa using hS.tok))
      simp only [Int.lt_irrefl, decide_false, cond_false, hlim, show (0 : Int) ≤ m.length by omega, Int.le_refl, decide_true, Bool.and_self, cond_true, Int.toNat_natCast, used_F hn (by omega) (by omega) hL, Option.bind_some]

theorem ren_l2 {nf : Nat} {own : List Term5} (hl : own.length ≤ 16) {nd : List Bool} (hnd : nd.length = own.length) (hL : Low own) (hc : ∀ j : Nat, j < own.length → nd.getD j false = true → ∀ c ∈ kids own j, nd.getD c.toNat false = true) (u : Unit) :
    ∀ (fu t : Nat) (number : List Int), t ≤ own.length → own.length - t < fu → number.length = own.length → (∀ j : Nat, j < t → nd.getD j false = true → number.getD j 0 = (cnt (fun j => nd.getD j false) j : Nat)) →
      term_Fold_l2 nf (nd, u) fu own number (outs (fun j => nd.getD j false) (fun j => renT (fun j => nd.getD j false) (own.getD j (0, 0, 0, 0, ()))) t) nd t = some (outs (fun j => nd.getD j false) (fun j => renT (fun j => nd.getD j false) (own.getD j (0, 0, 0, 0, ()))) own.length, 0, ())
  | 0, t, number, h0, h1, _, _ => by omega
  | fu + 1, t, number, h0, h1, hnl, hnum => by
    rw [term_Fold_l2, term_Fold_b2]
    by_cases ht : t < own.length
    · have hw : IntKind.i64.wrap ((t : Int) + 1) = ((t + 1 : Nat) : Int) := by rw [Go.IntWalk.i64_in _ (by omega)]; rfl
      have hb : inb (t : Int) own.length = true := inb_ok (by omega) (by omega)
      have hb' : inb (t : Int) nd.length = true := inb_ok (by omega) (by omega)
      have hbn : inb (t : Int) number.length = true := inb_ok (by omega) (by omega)
      simp only [show (t : Int) < (nd.length : Int) by omega, decide_true, cond_true, hb, hb', hbn, Int.toNat_natCast, hw]
      cases hm : nd.getD t false with
      | false =>
        have e : outs (fun j => nd.getD j false) (fun j => renT (fun j => nd.getD j false) (own.getD j (0, 0, 0, 0, ()))) (t + 1) = outs (fun j => nd.getD j false) (fun j => renT (fun j => nd.getD j false) (own.getD j (0, 0, 0, 0, ()))) t := by
          rw [outs, hm]; simp
        have ih := ren_l2 (nf := nf) hl hnd hL hc u fu (t + 1) number (by omega) (by omega) hnl fun j hj hp => by
          by_cases hjt : j = t
          · subst hjt; rw [hm] at hp; cases hp
          · exact hnum j (by omega) hp
        rw [e] at ih
        simp only [Bool.not_false, cond_true]
        exact ih
      | true =>
        have hlen : (outs (fun j => nd.getD j false) (fun j => renT (fun j => nd.getD j false) (own.getD j (0, 0, 0, 0, ()))) t).length = cnt (fun j => nd.getD j false) t := outs_len t
        have hcn := cnt_n (fun j => nd.getD j false) t
        have ih := ren_l2 (nf := nf) hl hnd hL hc u fu (t + 1) (number.set t (cnt (fun j => nd.getD j false) t : Nat)) (by omega) (by omega) (by simp [hnl]) fun j hj hp => by
          rw [getD_upd (by omega)]
          split
          · rename_i h; rw [h]
          · exact hnum j (by omega) hp
        have fit : ∀ {α β : Type} (y : α) (z : β), (bimp false (!List.isEmpty [y]) && Nat.ble (cnt (fun j => nd.getD j false) t + [z].length) lim) = true := fun y z => by rw [ble_ok (by rw [List.length_singleton]; omega)]; rfl
        simp only [Bool.not_true, cond_false, hlen, fit, cond_true]
        by_cases o : (own.getD t (0, 0, 0, 0, ())).1 > 2
        · have hk : kids own t = [(own.getD t (0, 0, 0, 0, ())).2.1, (own.getD t (0, 0, 0, 0, ())).2.2.1] := by unfold kids; rw [Int.toNat_natCast, if_pos o]
          have ha := hL t (by omega) (by omega) (own.getD t (0, 0, 0, 0, ())).2.1 (by rw [hk]; simp)
          have hbb := hL t (by omega) (by omega) (own.getD t (0, 0, 0, 0, ())).2.2.1 (by rw [hk]; simp)
          have na := hc t ht hm (own.getD t (0, 0, 0, 0, ())).2.1 (by rw [hk]; simp)
          have nb := hc t ht hm (own.getD t (0, 0, 0, 0, ())).2.2.1 (by rw [hk]; simp)
          have ga := hnum _ (by omega) na
          have gb := hnum _ (by omega) nb
          have ga' : (number.set t (cnt (fun j => nd.getD j false) t : Nat)).getD (own.getD t (0, 0, 0, 0, ())).2.1.toNat 0 = (cnt (fun j => nd.getD j false) (own.getD t (0, 0, 0, 0, ())).2.1.toNat : Nat) := by
            rw [getD_upd (by omega), if_neg (by omega), ga]
          have gb' : (number.set t (cnt (fun j => nd.getD j false) t : Nat)).getD (own.getD t (0, 0, 0, 0, ())).2.2.1.toNat 0 = (cnt (fun j => nd.getD j false) (own.getD t (0, 0, 0, 0, ())).2.2.1.toNat : Nat) := by
            rw [getD_upd (by omega), if_neg (by omega), gb]
          have e : outs (fun j => nd.getD j false) (fun j => renT (fun j => nd.getD j false) (own.getD j (0, 0, 0, 0, ()))) (t + 1) = outs (fun j => nd.getD j false) (fun j => renT (fun j => nd.getD j false) (own.getD j (0, 0, 0, 0, ()))) t ++ [((own.getD t (0, 0, 0, 0, ())).1, ((cnt (fun j => nd.getD j false) (own.getD t (0, 0, 0, 0, ())).2.1.toNat : Nat) : Int), ((cnt (fun j => nd.getD j false) (own.getD t (0, 0, 0, 0, ())).2.2.1.toNat : Nat) : Int), (own.getD t (0, 0, 0, 0, ())).2.2.2)] := by
            rw [outs, hm, if_pos rfl]
            simp only [renT, o, if_true]
          rw [e] at ih
          have l1 : (number.set t ((cnt (fun j => nd.getD j false) t : Nat) : Int)).length = own.length := by rw [List.length_set, hnl]
          simp only [o, decide_true, cond_true, l1, inb_ok (n := own.length) ha.1 (by omega), inb_ok (n := own.length) hbb.1 (by omega), ga', gb']
          exact ih
        · have e : outs (fun j => nd.getD j false) (fun j => renT (fun j => nd.getD j false) (own.getD j (0, 0, 0, 0, ()))) (t + 1) = outs (fun j => nd.getD j false) (fun j => renT (fun j => nd.getD j false) (own.getD j (0, 0, 0, 0, ()))) t ++ [own.getD t (0, 0, 0, 0, ())] := by
            rw [outs, hm, if_pos rfl]
            simp only [renT, o, if_false]
          rw [e] at ih
          simp only [o, decide_false, cond_false]
          exact ih
    · have : t = own.length := by omega
      subst this
      simp only [show ¬ ((own.length : Nat) : Int) < (nd.length : Int) by omega, decide_false, cond_false]

/-- what the folded list is -/
structure Folded (vars : Int) (l f : List Term5) : Prop where
  code : termCode vars f = 0
  le : f.length ≤ l.length
  all : (comes f ((f.length : Int) - 1)).length = f.length
  no : ∀ i, i < f.length → (f.getD i T0).1 > 2 → ¬ ((f.getD (f.getD i T0).2.1.toNat T0).1 = 1 ∧ (f.getD (f.getD i T0).2.2.1.toNat T0).1 = 1)
  val : ∀ hv, (∀ x ∈ hv, isV x) → (hv.length : Int) = vars → valOf f hv = valOf l hv

theorem folded_of {vars : Int} {l m : List Term5} (hv0 : 0 ≤ vars) (hv6 : vars ≤ 6) (hp : 1 ≤ l.length) (hl : l.length ≤ 16) (hF : Folding vars l l.length m) {p : Nat → Bool} (hpe : ∀ j : Nat, j < m.length → (p j = true ↔ Rch m ((m.length : Int) - 1) j)) : Folded vars l (outs p (fun j => renT p (m.getD j T0)) m.length) := by
  have hml := hF.len
  have hL : Low m := low_of (vars := vars) (of_tok m 0 (by simpa using hF.tok))
  have hroot : p (m.length - 1) = true := by
    rw [hpe _ (by omega), show ((m.length - 1 : Nat) : Int) = (m.length : Int) - 1 by omega]; exact .self
  have hkid : ∀ j : Nat, j < m.length → p j = true → ∀ c ∈ kids m j, 0 ≤ c ∧ c < j ∧ p c.toNat = true := fun j hj hpj c hc => by
    have := hL j (by omega) (by omega) c hc
    refine ⟨this.1, this.2, ?_⟩
    rw [hpe _ (by omega), show ((c.toNat : Nat) : Int) = c by omega]
    exact .kid ((hpe j hj).1 hpj) hc
  have hops : ∀ j : Nat, j < m.length → p j = true → (m.getD j T0).1 > 2 → (0 ≤ (m.getD j T0).2.1 ∧ (m.getD j T0).2.1 < j ∧ p (m.getD j T0).2.1.toNat = true) ∧ (0 ≤ (m.getD j T0).2.2.1 ∧ (m.getD j T0).2.2.1 < j ∧ p (m.getD j T0).2.2.1.toNat = true) := fun j hj hpj ho => by
    have hk : kids m j = [(m.getD j T0).2.1, (m.getD j T0).2.2.1] := by unfold kids; rw [Int.toNat_natCast, if_pos ho]
    exact ⟨hkid j hj hpj _ (by rw [hk]; simp), hkid j hj hpj _ (by rw [hk]; simp)⟩
  generalize hfe : outs p (fun j => renT p (m.getD j T0)) m.length = f
  have hfl : f.length = cnt p m.length := by rw [← hfe]; exact outs_len _
  have hget : ∀ j : Nat, j < m.length → p j = true → f.getD (cnt p j) T0 = renT p (m.getD j T0) := fun j hj hpj => by rw [← hfe]; exact outs_get hpj hj
  have hlast : cnt p m.length = cnt p (m.length - 1) + 1 := by
    have h := cnt p (m.length - 1 + 1)
    rw [show m.length = m.length - 1 + 1 by omega]
    simp only [cnt, Nat.add_sub_cancel, hroot, if_true]
  have hop : ∀ t, (renT p t).1 = t.1 := fun t => by unfold renT; split <;> rfl
  have hcn := cnt_n p m.length
  have htok : ∀ i, i < f.length → TOK vars i (f.getD i T0) := fun i hi => by
    rw [hfl] at hi
    obtain ⟨j, hj, hpj, rfl⟩ := cnt_surj hi
    rw [hget j hj hpj]
    have ht := hF.tok j hj
    by_cases ho : (m.getD j T0).1 > 2
    · obtain ⟨⟨a0, a1, a2⟩, b0, b1, b2⟩ := hops j hj hpj ho
      have h1 := cnt_strict (p := p) (a := (m.getD j T0).2.1.toNat) (b := j) (by omega) a2
      have h2 := cnt_strict (p := p) (a := (m.getD j T0).2.2.1.toNat) (b := j) (by omega) b2
      have e : renT p (m.getD j T0) = ((m.getD j T0).1, ((cnt p (m.getD j T0).2.1.toNat : Nat) : Int), ((cnt p (m.getD j T0).2.2.1.toNat : Nat) : Int), (m.getD j T0).2.2.2) := by unfold renT; rw [if_pos ho]
      rw [e]
      exact ⟨ht.lo, ht.hi, ht.one, ht.two, fun _ => by simp only; omega⟩
    · have e : renT p (m.getD j T0) = m.getD j T0 := by unfold renT; rw [if_neg ho]
      rw [e]
      exact ⟨ht.lo, ht.hi, ht.one, ht.two, fun h => absurd h ho⟩
  have hgo : termGo vars f 0 = 0 := of_tok f 0 (by simpa using htok)
  have hLf : Low f := low_of hgo
  have hkf : ∀ j : Nat, j < m.length → p j = true → ∀ c ∈ kids m j, ((cnt p c.toNat : Nat) : Int) ∈ kids f (cnt p j : Nat) := fun j hj hpj c hc => by
    unfold kids at hc ⊢
    rw [Int.toNat_natCast] at hc
    rw [Int.toNat_natCast, hget j hj hpj, hop]
    split at hc
    · rename_i ho
      have e : renT p (m.getD j T0) = ((m.getD j T0).1, ((cnt p (m.getD j T0).2.1.toNat : Nat) : Int), ((cnt p (m.getD j T0).2.2.1.toNat : Nat) : Int), (m.getD j T0).2.2.2) := by unfold renT; rw [if_pos ho]
      rw [if_pos ho, e]
      simp only [List.mem_cons, List.not_mem_nil, or_false] at hc ⊢
      rcases hc with rfl | rfl
      · exact .inl rfl
      · exact .inr rfl
    · simp at hc
  have hrch : ∀ x : Int, Rch m ((m.length : Int) - 1) x → Rch f ((f.length : Int) - 1) (cnt p x.toNat : Nat) := fun x hx => by
    induction hx with
    | self =>
      rw [show ((m.length : Int) - 1).toNat = m.length - 1 by omega, hfl, hlast, show (((cnt p (m.length - 1) + 1 : Nat) : Int) - 1) = ((cnt p (m.length - 1) : Nat) : Int) by omega]
      exact .self
    | kid hj hc ih =>
      rename_i j c
      have hb := hj.in hL (by omega) (by omega)
      have hpj : p j.toNat = true := by rw [hpe _ (by omega), show ((j.toNat : Nat) : Int) = j by omega]; exact hj
      exact .kid ih (hkf j.toNat (by omega) hpj c (by rw [show ((j.toNat : Nat) : Int) = j by omega]; exact hc))
  refine ⟨?_, by omega, ?_, fun i hi ho => ?_, fun hv h1 h2 => ?_⟩
  · unfold termCode; rw [if_neg (by omega)]; exact hgo
  · have hall : ∀ i : Nat, i < f.length → Rch f ((f.length : Int) - 1) (i : Nat) := fun i hi => by
      rw [hfl] at hi
      obtain ⟨j, hj, hpj, rfl⟩ := cnt_surj hi
      have := hrch j ((hpe j hj).1 hpj)
      simpa using this
    unfold comes
    rw [show ((f.length : Int) - 1).toNat + 1 = f.length by omega, List.filter_eq_self.2]
    · simp
    · intro x hx
      obtain ⟨n, hn, rfl⟩ := List.mem_map.1 hx
      simpa using hall n (List.mem_range.1 hn)
  · rw [hfl] at hi
    obtain ⟨j, hj, hpj, rfl⟩ := cnt_surj hi
    rw [hget j hj hpj] at ho ⊢
    rw [hop] at ho
    obtain ⟨⟨a0, a1, a2⟩, b0, b1, b2⟩ := hops j hj hpj ho
    have e : renT p (m.getD j T0) = ((m.getD j T0).1, ((cnt p (m.getD j T0).2.1.toNat : Nat) : Int), ((cnt p (m.getD j T0).2.2.1.toNat : Nat) : Int), (m.getD j T0).2.2.2) := by unfold renT; rw [if_pos ho]
    rw [e]
    simp only [Int.toNat_natCast]
    rw [hget _ (by omega) a2, hget _ (by omega) b2, hop, hop]
    exact hF.done j (by omega) ho
  · have hV := hF.val hv h1 h2
    have hW : IsVal hv f (valGo hv f []) := isVal_of htok
    have key : ∀ n j : Nat, j < n → j < m.length → p j = true → (valGo hv f []).getD (cnt p j) 0 = (valGo hv l []).getD j 0 := by
      intro n
      induction n with
      | zero => intro j h; omega
      | succ n ih =>
        intro j hjn hj hpj
        have hcj : cnt p j < f.length := by rw [hfl]; exact cnt_strict hj hpj
        rw [hW.2 _ hcj, hV.2 j hj, hget j hj hpj]
        unfold valOne
        rw [hop]
        by_cases ho : (m.getD j T0).1 > 2
        · obtain ⟨⟨a0, a1, a2⟩, b0, b1, b2⟩ := hops j hj hpj ho
          have e : renT p (m.getD j T0) = ((m.getD j T0).1, ((cnt p (m.getD j T0).2.1.toNat : Nat) : Int), ((cnt p (m.getD j T0).2.2.1.toNat : Nat) : Int), (m.getD j T0).2.2.2) := by unfold renT; rw [if_pos ho]
          rw [e]
          simp only [Int.toNat_natCast]
          rw [ih _ (by omega) (by omega) a2, ih _ (by omega) (by omega) b2]
        · have e : renT p (m.getD j T0) = m.getD j T0 := by unfold renT; rw [if_neg ho]
          have ht := (hF.tok j hj).lo
          rw [e]
          split
          · rfl
          · split
            · rfl
            · omega
    have := key m.length (m.length - 1) (by omega) (by omega) hroot
    unfold valOf
    rw [hfl, hlast, Nat.add_sub_cancel, this, hml]

theorem tf_l0 {nf : Nat} {vars : Int} {l hv : List Int} {l' : List Term5} {r : List Term5 × Int × Unit} {f : List Term5} (hr : r.1 = f) (hcode : termCode vars f = 0) (hno : ∀ i, i < f.length → (f.getD i T0).1 > 2 → ¬ ((f.getD (f.getD i T0).2.1.toNat T0).1 = 1 ∧ (f.getD (f.getD i T0).2.2.1.toNat T0).1 = 1)) (K : Option (Bool × Unit))
    (hK : (Option.bind (ref_HaveCheck_f nf vars hv) fun r5 => bif r5.fst != 0 then some ((true, ())) else Option.bind (ref_Term_f nf f hv) fun r6 => Option.bind (ref_Term_f nf l' hv) fun r7 => some ((r6.fst == r7.fst, ()))) = K) : ∀ (fu t : Nat), t ≤ f.length → f.length - t < fu → law_TermFolds_l0 nf vars l' hv r fu f t = K
  | 0, t, h0, h1 => by omega
  | fu + 1, t, h0, h1 => by
    obtain ⟨_, _, _, hl16, hg⟩ := termCode_ok hcode
    rw [law_TermFolds_l0, law_TermFolds_b0, hr]
    by_cases ht : t < f.length
    · have hw : IntKind.i64.wrap ((t : Int) + 1) = ((t + 1 : Nat) : Int) := by rw [Go.IntWalk.i64_in _ (by omega)]; rfl
      have hb : inb (t : Int) f.length = true := inb_ok (by omega) (by omega)
      have ih := tf_l0 (l := l) hr hcode hno K hK fu (t + 1) (by omega) (by omega)
      have htk := tok_of f 0 (by simpa using hg) t ht
      simp only [show (t : Int) < (f.length : Int) by omega, decide_true, cond_true, hb, Int.toNat_natCast, hw, ih]
      by_cases o : (f.getD t T0).1 > 2
      · obtain ⟨a0, a1, b0, b1⟩ := htk.more o
        simp only [show (f.getD t T0).1 ≥ 3 by omega, decide_true, cond_true, inb_ok (n := f.length) a0 (by omega), inb_ok (n := f.length) b0 (by omega)]
        by_cases ca : (f.getD (f.getD t T0).2.1.toNat T0).1 = 1
        · have cb : ¬ (f.getD (f.getD t T0).2.2.1.toNat T0).1 = 1 := fun cb => hno t ht o ⟨ca, cb⟩
          simp only [ca, beq_self_eq_true, cond_true, beq_f cb, cond_false]
        · simp only [beq_f ca, cond_false]
      · simp only [show ¬ (f.getD t T0).1 ≥ 3 by omega, decide_false, cond_false]
    · simp only [show ¬ (t : Int) < (f.length : Int) by omega, decide_false, cond_false]
      exact hK

theorem clone_F (nf : Nat) (l : List Term5) (hl : l.length ≤ 16) : slices_Clone_f nf l = some (l, ()) := by
  have hb := ble_ok (n := l.length) (by omega)
  cases l with
  | nil => simp [slices_Clone_f, slices_Clone_p, bimp, ble_ok, both_self]
  | cons a r => simp only [List.length_cons] at hb; simp [slices_Clone_f, slices_Clone_p, bimp, hb]

theorem termFolds_main (vars : Int) (l : List Term5) (hv : List Int) (hh : hv.length ≤ maxLen) : law_TermFolds_f (hv.length + 100) vars l hv = some (true, ()) := by
  simp only [law_TermFolds_f, law_TermFolds_p, term_Fold_f, term_Fold_p]
  simp only [term_F (nf := hv.length + 100) (by omega) vars l, terms_F' (nf := hv.length + 100) (by omega) vars l, Option.bind_some]
  by_cases hc : termCode vars l = 0
  · obtain ⟨hv0, hv6, hp, hl, hg⟩ := termCode_ok hc
    have hok := tok_of l 0 (by simpa using hg)
    have hS : Folding vars l 0 l := ⟨rfl, by simpa using hok, fun hv _ _ => isVal_of (vars := vars) (by simpa using hok), fun j hj => by omega⟩
    obtain ⟨m, hF, e⟩ := fold_l0 (nf := hv.length + 100) hv0 hl hp (by omega) () (hv.length + 100) 0 l hS (by omega) (by omega)
    have hml := hF.len
    have hL : Low m := low_of (vars := vars) (of_tok m 0 (by simpa using hF.tok))
    have hget : ∀ j : Nat, j < m.length → ((need m ((m.length : Int) - 1)).getD j false = true ↔ Rch m ((m.length : Int) - 1) (j : Nat)) := fun j hj => by
      rw [List.getD_eq_getElem?_getD]; simp [need, hj]
    have e2 := ren_l2 (nf := hv.length + 100) (own := m) (by omega) (nd := need m ((m.length : Int) - 1)) (by simp [need]) hL (fun j hj hm c hcc => by
      have := hL j (by omega) (by omega) c hcc
      rw [hget _ (by omega), show ((c.toNat : Nat) : Int) = c by omega]
      exact .kid ((hget j (by omega)).1 hm) hcc) () (hv.length + 100) 0 (List.replicate m.length 0) (by omega) (by omega) (by simp) (fun j hj => by omega)
    have hD := folded_of hv0 hv6 hp hl hF (p := fun j => (need m ((m.length : Int) - 1)).getD j false) hget
    simp only [hc, bne_self_eq_false, cond_false, clone_F _ l hl, Option.bind_some]
    rw [show term_Fold_l0 (hv.length + 100) (l, ()) (hv.length + 100) l 0 = _ from e, show term_Fold_l2 (hv.length + 100) (need m ((m.length : Int) - 1), ()) (hv.length + 100) m (List.replicate m.length 0) [] (need m ((m.length : Int) - 1)) 0 = _ from e2]
    simp only [Option.bind_some, bne_self_eq_false, cond_false]
    change Folded vars l (outs (fun j => (need m ((m.length : Int) - 1)).getD j false) (fun j => renT (fun j => (need m ((m.length : Int) - 1)).getD j false) (m.getD j (0, 0, 0, 0, ()))) m.length) at hD
    generalize outs (fun j => (need m ((m.length : Int) - 1)).getD j false) (fun j => renT (fun j => (need m ((m.length : Int) - 1)).getD j false) (m.getD j (0, 0, 0, 0, ()))) m.length = f at hD
    obtain ⟨_, _, hfp, hfl, hfg⟩ := termCode_ok hD.code
    have hw : IntKind.i64.wrap ((f.length : Int) - 1) = (f.length : Int) - 1 := Go.IntWalk.i64_in _ (by omega)
    have hle := hD.le
    simp only [terms_F' (nf := hv.length + 100) (by omega) vars f, hD.code, Option.bind_some, bne_self_eq_false, cond_false, show ¬ (f.length : Int) > (l.length : Int) by omega, decide_false, hw,
      comes_F (nf := hv.length + 100) (by omega) (by omega) (low_of hfg) (i := (f.length : Int) - 1) (by omega) (by omega), hD.all]
    have h9 := tf_l0 (nf := hv.length + 100) (vars := vars) (l := []) (hv := hv) (l' := l) (r := (f, 0, ())) (f := f) rfl hD.code hD.no (some (true, ())) (by
      rw [haveCheck_F vars hv hh (by omega)]
      simp only [Option.bind_some]
      by_cases hq : haveCode vars hv = 0
      · obtain ⟨h1, h2⟩ := haveCode_ok hq
        rw [(value_F (nf := hv.length + 100) hD.code hq hh (by omega)).2, (value_F (nf := hv.length + 100) hc hq hh (by omega)).2]
        simp [hq, hD.val hv h2 h1]
      · simp [bne_t hq]) (hv.length + 100) 0 (by omega) (by omega)
    exact h9
  · simp [bne_t hc]

theorem termFolds_law (x : denPs (lawPs [.int .i64, .sl (.pair (.int .i64) (.pair (.int .i64) (.pair (.int .i64) (.pair (.int .i64) .unit)))), .sl (.int .i64)])) (h : wfPs [.int .i64, .sl (.pair (.int .i64) (.pair (.int .i64) (.pair (.int .i64) (.pair (.int .i64) .unit)))), .sl (.int .i64)] x) : ∃ n, law_TermFolds_F n x = some (true, ()) := by
  obtain ⟨vars, l, hv, _⟩ := x
  obtain ⟨_, _, ⟨hh, _⟩, _⟩ := h
  exact ⟨_, termFolds_main vars l hv hh⟩
end Go.Proofs.Ytpnganfbonlphaa
