/- Copies into a part of an owner. -/
import Derived.Test.YtokjogplnoeicaaAbAppend
import Derived.Laws.CopyRow
namespace Go.Ab

section
variable {P : Program} {T : Tab} {Φ : Nat → Option Contract} {w0 w : World} {mu : Mu} {st : St} {a : Act} {g : Gh} {R : Type} {o : Oper} {K : AV → St → Option R} {r : R} {val : Nat → Value} {U : Nat → Prop}

/-- a row with other elements, as many -/
theorem RR_rowW {w' : World} {s B O N : Nat} {tg : List Stp} (hW : Written w w' B O N) (hsh : ∀ b l0, b < w.heap.size → shared g.col l0 b → b ≠ B) (hcB : g.col B = some (s, tg)) {e0 : Ty} {m0 : Md} {x0 y0 : List (den e0)} {ad : Addr} {cap0 : Nat}
  (hH : g.H s tg = .slice (some ad) x0.length cap0) (hadB : ad.block = B) (hlen : y0.length = x0.length) (hce : isCell e0 = true) (hme : m0.el.hasOwn = false)
  (hel : ∀ i, i < y0.length → ∃ cs : Array Value, (∀ j, j < sz e0 → w'.cell? ⟨B, ad.off + i * sz e0 + j, none⟩ = cs[j]?) ∧ RR w g 0 e0 m0.el [] (.val cs) 0 (y0.getD i (dflt e0))) :
  ∀ (q : List Stp) (t : Ty) (m : Md) (p : List Stp) (src : Src) (k : Nat) (x x' : den t), RR w g s t m p src k x → (isCell t = false → k = 0) → okP q t m x → walkP q t m x = some ⟨.sl e0, m0, x0⟩ → updP q t x (.sl e0) y0 = some x' → p ++ q = tg → SrcOK g s p src → m0.isOwn = true → RR w' g s t m p src k x' := by
 have hsh' : ∀ b l0, b < w.heap.size → shared g.col l0 b → w'.heap[b]? = w.heap[b]? ∧ shared g.col l0 b := fun b l0 h1 h2 => ⟨hW.other b (hsh b l0 h1 h2), h2⟩
 intro q
 induction q with
 | nil =>
  intro t m p src k x x' h hk _ hw hu hpq hsrc hm
  simp only [walkP, Option.some.injEq, TV.mk.injEq] at hw
  obtain ⟨rfl, rfl, hx⟩ := hw
  have hx := eq_of_heq hx
  subst hx
  simp only [updP, dite_true, Option.some.injEq] at hu
  subst hu
  simp only [List.append_nil] at hpq
  subst hpq
  have hhead : rdS w' src k = rdS w src k := by
   cases src with
   | val cs => rfl
   | mem b off =>
    obtain ⟨cb, hcb, hlen⟩ := hsrc b off rfl
    refine cell?_congr (hW.other b fun hb => ?_)
    subst hb
    rw [hcB] at hcb
    simp only [Option.some.injEq, Prod.mk.injEq, true_and] at hcb
    subst hcb; omega
  simp only [RR, hm] at h ⊢
  obtain ⟨a', cap, h1, h2, h3, h4, h5⟩ := h
  rw [hH] at h2
  simp only [Value.slice.injEq] at h2
  obtain ⟨rfl, _, rfl⟩ := h2
  obtain ⟨h6, h7, ⟨c, el, h8, h8'⟩, h9⟩ := h5
  obtain ⟨c', h10, h11⟩ := hW.obj c el _ (by rw [← hadB]; exact h8)
  refine ⟨some ad, cap0, by rw [hhead]; exact h1, by rw [hH, hlen], by rw [hlen]; exact h3, fun hz hx => h4 hz (List.eq_nil_of_length_eq_zero (by rw [← hlen, hx]; rfl)), h6, h7, ⟨c', el, by rw [hadB]; exact h10, by omega⟩, fun i hi => ⟨(h9 i (by rw [← hlen]; exact hi)).1, ?_⟩⟩
  obtain ⟨cs, h12, h13⟩ := hel i hi
  refine RR_repath (g := g) (g' := g) (Nat.le_of_eq hW.size.symm) hsh' e0 _ [] _ _ _ 0 _ h13 hme (fun hc => by rw [hce] at hc; cases hc) fun j hj => ?_
  simp only [rdS, Nat.zero_add]
  rw [hadB]
  exact h12 j hj
 | cons c q ih =>
  intro t m p src k x x' h hk hok hw hu hpq hsrc hm
  have hpt : p ≠ tg := fun h => by rw [← hpq] at h; simp at h
  have hpl : p.length < tg.length := by rw [← hpq]; simp
  have hsb : ∀ b off, src = .mem b off → b ≠ B := fun b off hb hbB => by
   obtain ⟨cb, hcb, hlen⟩ := hsrc b off hb
   rw [hbB, hcB] at hcb
   simp only [Option.some.injEq, Prod.mk.injEq, true_and] at hcb
   subst hcb; omega
  have hcell : ∀ j, rdS w' src j = rdS w src j := fun j => by
   cases src with
   | val cs => rfl
   | mem b off => exact cell?_congr (hW.other b (hsb b off rfl))
  cases c with
  | dr => simp [okP] at hok
  | fld nf =>
   simp only [okP, walkP, updP] at hok hw hu
   obtain ⟨tv', hf, hok⟩ := hok
   rw [hf] at hw
   have hk0 : k = 0 := by
    cases t <;> first | exact hk rfl | (simp [fieldOf, fieldK] at hf)
   subst hk0
   obtain ⟨h1, h2, h3, h4, _, h5⟩ := RR_field _ _ _ _ _ _ h hf
   refine RR_updF (w := w) (g := g) (m := m) (m2 := m) (n := nf) (f := fun t1 x1 => updP q t1 x1 (.sl e0) y0) (tv := tv') ?_ (fun _ => rfl) ?_ t 0 x x' h hf hu
   ·intro ta j z hj hca hr
    refine RR_frame (Nat.le_of_eq hW.size.symm) hsh' ta _ _ _ _ z hr (fun b r hb => ⟨hW.other b ?_, rfl⟩) (fun _ => rfl) (fun _ _ => rfl) (fun i _ => hcell _)
    rintro rfl
    rw [hcB, ← hpq] at hb
    simp only [Option.some.injEq, Prod.mk.injEq, true_and, List.append_assoc, List.append_cancel_left_eq, List.cons_append, List.nil_append, List.cons.injEq, Stp.fld.injEq] at hb
    exact hj hb.1.symm
   ·intro y hy
    rw [← h3]
    exact ih tv'.t tv'.m _ _ nf tv'.x y h1 (fun hc => by rw [h2] at hc; cases hc) hok hw hy (by rw [← hpq]; simp) (fun b off hb => by
     obtain ⟨cb, hcb, hlen⟩ := hsrc b off hb
     exact ⟨cb, hcb, by simp; omega⟩) hm
  | el i =>
   cases t with
   | sl e =>
    simp only [okP, walkP, updP] at hok hw hu
    obtain ⟨hmo, hi, hok⟩ := hok
    cases hz : updP q e (List.getD x i (dflt e)) (.sl e0) y0 with
    | none => rw [hz] at hu; cases hu
    | some z =>
     rw [hz] at hu
     simp only [Option.some.injEq] at hu
     subst hu
     simp only [RR, hmo] at h ⊢
     obtain ⟨a', cap, h1, h2, h3, h4, h5⟩ := h
     refine ⟨a', cap, by rw [hcell]; exact h1, by rw [h2]; simp, by simpa using h3, fun hz' hx => ?_, ?_⟩
     ·have : List.length (List.set x i z) = 0 := by rw [hx]; rfl
      simp at this
      exact absurd hi (by rw [this]; simp)
     ·cases a' with
      | none => obtain ⟨hx, _⟩ := h5; subst hx; simp at hi
      | some ad' =>
       obtain ⟨h6, h7, ⟨c, el, h8, h8'⟩, h9⟩ := h5
       have hne : ad'.block ≠ B := fun hb => by
        rw [hb, hcB] at h7
        simp only [Option.some.injEq, Prod.mk.injEq, true_and] at h7
        exact hpt h7.symm
       refine ⟨h6, h7, ⟨c, el, by rw [hW.other _ hne]; exact h8, h8'⟩, fun j hj => ?_⟩
       simp only [List.length_set] at hj
       refine ⟨(h9 j hj).1, ?_⟩
       by_cases hji : j = i
       ·subst hji
        rw [List.getD_eq_getElem?_getD, List.getElem?_set_self hj]
        exact ih e m.el _ _ 0 _ z (h9 j hj).2 (fun _ => rfl) hok hw hz (by rw [← hpq]; simp) (fun b off hb => by
         cases hb
         exact ⟨p, h7, by simp⟩) hm
       ·rw [List.getD_eq_getElem?_getD, List.getElem?_set_ne (Ne.symm hji), ← List.getD_eq_getElem?_getD]
        refine RR_frame (Nat.le_of_eq hW.size.symm) hsh' e _ _ _ 0 _ (h9 j hj).2 (fun b r hb => ⟨hW.other b ?_, rfl⟩) (fun _ => rfl) (fun _ _ => rfl) (fun o _ => ?_)
        ·rintro rfl
         rw [hcB, ← hpq] at hb
         simp only [Option.some.injEq, Prod.mk.injEq, true_and, List.append_assoc, List.append_cancel_left_eq, List.cons_append, List.nil_append, List.cons.injEq, Stp.el.injEq] at hb
         exact hji hb.1.symm
        ·simp only [rdS]
         exact cell?_congr (hW.other _ hne)
   | _ => simp [okP] at hok

theorem updF_same {m : Md} {n : Nat} {f : (t' : Ty) → den t' → Option (den t')} : ∀ (t : Ty) (k : Nat) (x x' : den t) (tv : TV), fieldK m n t x k = some tv → (∀ y, f tv.t tv.x = some y → y = tv.x) → updF n f t x k = some x' → x' = x := by
 intro t
 induction t with
 | pair a b _ ihb =>
  intro k x x' tv h hf hu
  simp only [fieldK, updF] at h hu
  cases hk : Nat.beq k n with
  | true =>
   rw [hk] at h hu
   simp only [Option.some.injEq] at h
   subst h
   simp only at hf hu
   cases hfx : f a x.1 with
   | none => rw [hfx] at hu; cases hu
   | some y =>
    rw [hfx] at hu
    simp only [Option.some.injEq] at hu
    rw [← hu, hf y hfx]
  | false =>
   rw [hk] at h hu
   simp only at h hu
   cases hfx : updF n f b x.2 (k + 1) with
   | none => rw [hfx] at hu; cases hu
   | some y =>
    rw [hfx] at hu
    simp only [Option.some.injEq] at hu
    rw [← hu, ihb _ _ _ _ h hf hfx]
 | _ => intro k x x' tv h; simp [fieldK] at h
theorem updP_same {t' : Ty} {m' : Md} {y : den t'} : ∀ (q : List Stp) (t : Ty) (m : Md) (x x' : den t), okP q t m x → walkP q t m x = some ⟨t', m', y⟩ → updP q t x t' y = some x' → x' = x := by
 intro q
 induction q with
 | nil =>
  intro t m x x' _ hw hu
  simp only [walkP, Option.some.injEq, TV.mk.injEq] at hw
  obtain ⟨rfl, _, hx⟩ := hw
  have hx := eq_of_heq hx
  subst hx
  simp only [updP, dite_true, Option.some.injEq] at hu
  exact hu.symm
 | cons c q ih =>
  intro t m x x' hok hw hu
  cases c with
  | dr => simp [okP] at hok
  | fld n =>
   simp only [okP, walkP, updP] at hok hw hu
   obtain ⟨tv, hf, hok⟩ := hok
   rw [hf] at hw
   exact updF_same t 0 x x' tv hf (fun z hz => ih tv.t tv.m tv.x z hok hw hz) hu
  | el i =>
   cases t with
   | sl e =>
    simp only [okP, walkP, updP] at hok hw hu
    obtain ⟨_, hi, hok⟩ := hok
    cases hz : updP q e (List.getD x i (dflt e)) t' y with
    | none => rw [hz] at hu; cases hu
    | some z =>
     rw [hz] at hu
     simp only [Option.some.injEq] at hu
     rw [← hu, ih _ _ _ _ hok hw hz, List.getD_eq_getElem?_getD, List.getElem?_eq_getElem hi]
     exact List.set_getElem_self _
   | _ => simp [okP] at hok
theorem upd_same {o o1 : Own} {p : List Stp} {t' : Ty} {m' : Md} {y : den t'} (hok : o.ok p) (hat : o.at p = some ⟨t', m', y⟩) (h : o.upd p t' y = some o1) : o1 = o := by
 obtain ⟨ob, ot, om, ox⟩ := o
 cases ob with
 | false =>
  obtain ⟨z, hz, rfl⟩ := upd_ow rfl h
  have hokw : okP p ot om ox := by
   cases p with
   | nil => trivial
   | cons c p => cases c <;> simpa [Own.ok] using hok
  have hatw : walkP p ot om ox = some ⟨t', m', y⟩ := by
   cases p with
   | nil => exact hat
   | cons c p => cases c <;> first | exact hat | (simp [Own.at] at hat)
  rw [updP_same p ot om ox z hokw hatw hz]
 | true =>
  obtain ⟨q, z, rfl, hz, rfl⟩ := upd_box rfl h
  rw [updP_same q ot om ox z hok hat hz]

/-- the parts of a slot anew, under a new stamp -/
theorem Inv_reown {w' : World} (hI : Inv w0 mu st.get (Vals a) U w g) (hU : New U st.c) {s n : Nat} {o o1 : Own} (ho : own? (st.get s) n = some o) (hbox : o.box = false) (hsl : s ≠ lentC.1) {B O N : Nat} (hcB : ∀ b k, g.col b = some k → k.1 ≠ s → b ≠ B) (hsB : ∀ b l0, b < w.heap.size → shared g.col l0 b → b ≠ B) (hW : Written w w' B O N) (hFr : Fr w0 mu w')
  (hslot : SlotR w' g (st.set s (newAV (st.get s) o1 (some st.c))).get s (newAV (st.get s) o1 (some st.c)) (Vals a s)) : Inv w0 mu (st.set s (newAV (st.get s) o1 (some st.c))).get (Vals a) (Nw U st.c) w' g := by
 have hq : ∃ n t m x, st.get s = .ow n t m x := by
  rcases own?_ow ho with ⟨_, hq⟩ | ⟨hb, n1, hq⟩
  ·exact ⟨_, _, _, _, hq⟩
  ·rw [hb] at hbox; cases hbox
 obtain ⟨n0, t0, m0, x0, hq⟩ := hq
 rw [hq, newAV_ow] at hslot ⊢
 have hfar := own_not_far hI ho
 refine Inv_upd hI (fun u => u = s) (fun _ => Nw_old) (Nat.le_of_eq hW.size.symm) (fun b l0 h1 h2 => ⟨hW.other b (hsB b l0 h1 h2), h2⟩) ?_ ?_ ?_ ?_ (fun b k hk => by rw [hW.size]; exact hI.cols b k hk) hFr ?_ (fun _ h => h) (.inl fun u hu n hn => by subst hu; rw [get_set, if_pos rfl]; exact own?_new hU hn)
 ·intro u hu
  exact ⟨by rw [get_set, if_neg hu], rfl, fun b r hb => ⟨hW.other b (hcB b _ hb hu), rfl⟩, fun _ => rfl, fun _ => rfl⟩
 ·intro u hu n' hn' o' ho'
  subst hu
  rw [get_set, if_pos rfl] at ho'
  have := own?_new (t := o1.t) (m := o1.m) (x := o1.x) hU hn'
  simp only [Option.getD_some] at ho'
  rw [this] at ho'; cases ho'
 ·intro u hu n' p hn' o' ho'
  subst hu
  rw [get_set, if_pos rfl] at ho'
  have := ownP?_new (t := o1.t) (m := o1.m) (x := o1.x) (p := p) hU hn'
  simp only [Option.getD_some] at ho'
  rw [this] at ho'; cases ho'
 ·intro u hu
  subst hu
  rw [get_set, if_pos rfl]
  exact ⟨hslot, Nw_0⟩
 ·intro u hu
  rw [get_set]
  split
  ·rename_i h; subst h; exact absurd hu hfar
  ·exact hI.far u hu

/-- the slice that a copy goes to -/
theorem dst_sound (hI : Inv w0 mu st.get val U w g) {av : AV} {v : Value} {s n : Nat} {p : List Stp} {lo : Nat} {len : Option Nat} (h : dstOf av = some (s, n, p, lo, len)) (hv : VR w g st.get av v) {o : Own} (ho : own? (st.get s) n = some o) {e : Ty} {m : Md} {xs : List (den e)} (hat : o.at p = some ⟨.sl e, m, xs⟩) (hm : m.isOwn = true) (hce : isCell e = true) :
  o.ok p ∧ ∃ ad cap adv capv, g.H s p = .slice ad xs.length cap ∧ v = .slice adv (len.getD xs.length) capv ∧ lo + len.getD xs.length ≤ xs.length ∧ (0 < len.getD xs.length → adv = ad.map (·.add lo)) := by
 unfold dstOf at h
 split at h
 ·simp only [Option.some.injEq, Prod.mk.injEq] at h
  obtain ⟨rfl, rfl, rfl, rfl, rfl⟩ := h
  obtain ⟨h1, h2⟩ := hv o ho
  obtain ⟨ad, cap, h3, _⟩ := alias_node hI ho h2 hat hm
  refine ⟨h2, ad, cap, ad, cap, h3, by rw [h1, h3]; rfl, by simp, fun _ => ?_⟩
  cases ad with
  | none => rfl
  | some ad => obtain ⟨b, o, sp⟩ := ad; simp [Addr.add]
 ·simp only [Option.some.injEq, Prod.mk.injEq] at h
  obtain ⟨rfl, rfl, rfl, rfl, rfl⟩ := h
  obtain ⟨hok, e', m', x', ad, c, M, h1, h2, h3, h4, h5, h6, h7⟩ := hv o ho
  rw [hat] at h1
  simp only [Option.some.injEq, TV.mk.injEq, Ty.sl.injEq] at h1
  obtain ⟨rfl, rfl, h1⟩ := h1
  have h1 := eq_of_heq h1
  subst h1
  refine ⟨hok, ad, c, _, _, h2, h7, by simpa using h3, fun hl => ?_⟩
  simp only [Option.getD_some] at hl
  rw [if_neg (by omega), sz_cell hce, Nat.mul_one]
 ·cases h

theorem copy_core (hT : TabOK P T) (hI : Inv w0 mu st.get (Vals a) U w g) (hU : New U st.c) {s n : Nat} {p : List Stp} {o' o1 : Own} (ho : own? (st.get s) n = some o') (hbox : o'.box = false) (hok : o'.ok p) {e : Ty} {nz : Bool} {me : Md} {xs ys : List (den e)}
  (hat : o'.at p = some ⟨.sl e, .own nz me, xs⟩) (hme : me.hasOwn = false) (hce : isCell e = true) {t u ty : TypeId} (hTt : TM P (.sl e) t) {lo d : Nat} {ad adv : Option Addr} {cap capv : Nat} (hH : g.H s p = .slice ad xs.length cap) (hlo : lo + d ≤ xs.length) (hadv : 0 < d → adv = ad.map (·.add lo))
  {adx : Option Addr} {cx : Nat} (hE : Els w g e me adx ys) (hup : o'.upd p (.sl e) (xs.take lo ++ (ys.take (Nat.min d ys.length) ++ xs.drop (lo + Nat.min d ys.length))) = some o1) :
  ∃ w', (Builtin.copy_ #[t, u] ty #[.slice adv d capv, .slice adx ys.length cx]).run P w = .ok (.int .i64 ((Nat.min d ys.length : Nat) : Int)) w' ∧ Inv w0 mu (st.set s (newAV (st.get s) o1 (some st.c))).get (Vals a) (Nw U st.c) w' g := by
 have hsl := own_ne_lent hI ho
 obtain ⟨te, h1, h2, _⟩ := hTt
 obtain ⟨i, h3, h4, _⟩ := TM_info h2
 have hs1 : i.size = 1 := by rw [h4, sz_cell hce]
 obtain ⟨ad', cap', hH', hnode⟩ := alias_node hI ho hok hat rfl
 rw [hH] at hH'
 simp only [Value.slice.injEq, true_and] at hH'
 obtain ⟨rfl, rfl⟩ := hH'
 obtain ⟨hEx, hcap, hnz, hadn⟩ := Els_own hnode hme Kept.refl hH
 by_cases hc : Nat.min d ys.length = 0
 ·-- nothing is copied
  have hrun : (Builtin.copy_ #[t, u] ty #[.slice adv d capv, .slice adx ys.length cx]).run P w = .ok (.int .i64 ((Nat.min d ys.length : Nat) : Int)) w := by
   have hc' : Nat.min ys.length d = 0 := by rw [← hc]; exact Nat.min_comm _ _
   rw [hc]
   have hfc : (Builtin.firstCells i.size 0 (.slice adx ys.length cx)).run P w = .ok #[] w := by
    cases adx with
    | none => exact run_firstCells_none _ _ _ _ _
    | some b => exact run_firstCells_some w i.size 0 b ys.length cx [] (by simp) (by simp)
   cases adv <;> simp [Builtin.copy_, run_underlying h1, Builtin.lenOf, sizeOf, typeInfo, h3, hc', hfc, storeCells, goInt]
  rw [hc] at hup
  have hx0 : xs.take lo ++ (ys.take 0 ++ xs.drop (lo + 0)) = xs := by simp
  rw [hx0] at hup
  obtain rfl := upd_same hok hat hup
  refine ⟨w, hrun, Inv_reown (B := w.heap.size) (O := 0) (N := 0) hI hU ho hbox hsl (fun b k hb _ => Nat.ne_of_lt (hI.cols b k hb).1) (fun b _ hb _ => Nat.ne_of_lt hb) ⟨rfl, fun _ _ => rfl, fun _ _ => rfl, fun c el fr h => ⟨c, h, rfl⟩⟩ hI.fr ?_⟩
  have hs := hI.slots s
  rcases own?_ow ho with ⟨_, hq⟩ | ⟨hb, _, _⟩
  ·rw [hq] at hs ⊢
   rw [newAV_ow]
   exact hs
  ·rw [hb] at hbox; cases hbox
 ·have hd0 : 0 < d := by
   rcases Nat.eq_zero_or_pos d with h | h
   ·subst h; exact absurd (Nat.zero_min _) hc
   ·exact h
  have hmd : Nat.min d ys.length ≤ d := Nat.min_le_left _ _
  have hmy : Nat.min d ys.length ≤ ys.length := Nat.min_le_right _ _
  generalize hcd : Nat.min d ys.length = c at hc hmd hmy hup
  cases ad with
  | none => obtain rfl : xs = [] := hEx; simp at hlo; omega
  | some ad =>
   obtain ⟨hsp, hcol, cc, el, hheap, hsize⟩ := hadn
   obtain ⟨B, O, sp⟩ := ad
   simp only at hsp; subst hsp
   simp only at hcol hheap hsize
   rw [sz_cell hce, Nat.mul_one] at hsize
   have hadv' : adv = some ⟨B, O + lo, none⟩ := by rw [hadv hd0]; simp [addr_add]
   obtain ⟨news, n1, n2, n3, n4⟩ := Els_news hE
   obtain ⟨olds, o1', o2, o3, o4⟩ := Els_news hEx
   rw [sz_cell hce, Nat.mul_one] at n1 o1'
   have hl : (news.take c).length = c := by rw [List.length_take]; omega
   cases adx with
   | none =>
    have : ys = [] := hE
    subst this
    simp at hmy
    omega
   | some ax =>
    have hO : O + lo + (news.take c).length ≤ cc.size := by omega
    have hone : ∀ v ∈ news.take c, v.oneCell' = true := fun v hv => n2 v (List.mem_of_mem_take hv)
    have hrun := run_copy_row (P := P) w t u ty te B (O + lo) d capv ax ys.length cx cc el (news.take c) h1 (by rw [h3]; simp [hs1]) hheap (by rw [hl, ← hcd]; exact Nat.min_comm _ _) (fun j v hj => by
     rw [List.getElem?_take] at hj
     split at hj
     ·exact n3 ax rfl j v hj
     ·cases hj) hO hone
    obtain ⟨hW, hcells⟩ := written_setRow (w := w) (B := B) (O := O + lo) (cur := cc) (el := el) (vs := news.take c) hheap hO
    have hFr : Fr w0 mu (w.setRow B (cc.toList.take (O + lo) ++ news.take c ++ cc.toList.drop (O + lo + (news.take c).length)).toArray) := Fr_setRow hI.fr (by
     obtain ⟨_, h⟩ := hI.cols B _ hcol
     rcases h with h | h
     ·exact absurd (congrArg Prod.fst h) hsl
     ·exact h)
    generalize w.setRow B (cc.toList.take (O + lo) ++ news.take c ++ cc.toList.drop (O + lo + (news.take c).length)).toArray = w' at hW hcells hrun hFr
    have hshB : ∀ b l0, b < w.heap.size → shared g.col l0 b → b ≠ B := fun b l0 _ hs => shared_ne hcol hsl hs
    refine ⟨w', by rw [hadv']; simpa [hl, goInt] using hrun, Inv_reown hI hU ho hbox hsl (fun b k hb hk hbB => by rw [hbB, hcol] at hb; cases hb; exact hk rfl) hshB hW hFr ?_⟩
    have hs := hI.slots s
    rcases own?_ow ho with ⟨_, hq⟩ | ⟨hb, _, _⟩
    ·rw [hq] at hs ⊢
     rw [newAV_ow]
     obtain ⟨g1, g2⟩ := hs
     obtain ⟨ob, ot, om, ox⟩ := o'
     simp only at hbox; subst hbox
     obtain ⟨z, hz, rfl⟩ := upd_ow rfl hup
     have hatw : walkP p ot om ox = some ⟨.sl e, .own nz me, xs⟩ := by
      cases p with
      | nil => exact hat
      | cons c p => cases c <;> first | exact hat | (simp [Own.at] at hat)
     have hokw : okP p ot om ox := by
      cases p with
      | nil => trivial
      | cons c p => cases c <;> simpa [Own.ok] using hok
     have hyl : (xs.take lo ++ (ys.take c ++ xs.drop (lo + c))).length = xs.length := by simp; omega
     refine ⟨g1, RR_rowW (m0 := .own nz me) hW hshB hcol hH rfl hyl hce hme (fun i hi => ?_) p ot om [] _ 0 ox z g2 (fun _ => rfl) hokw hatw hz rfl (fun _ _ h => by cases h) rfl⟩
     rw [hyl] at hi
     simp only [sz_cell hce, Nat.mul_one]
     have hget : (xs.take lo ++ (ys.take c ++ xs.drop (lo + c))).getD i (dflt e) = if i < lo then xs.getD i (dflt e) else if i < lo + c then ys.getD (i - lo) (dflt e) else xs.getD i (dflt e) := by
      simp only [List.getD_eq_getElem?_getD]
      have l1 : (xs.take lo).length = lo := by rw [List.length_take]; omega
      have l2 : (ys.take c).length = c := by rw [List.length_take]; omega
      by_cases c1 : i < lo
      ·rw [if_pos c1, List.getElem?_append_left (by omega), List.getElem?_take, if_pos c1]
      ·rw [if_neg c1, List.getElem?_append_right (by omega), l1]
       by_cases c2 : i < lo + c
       ·rw [if_pos c2, List.getElem?_append_left (by omega), List.getElem?_take, if_pos (by omega)]
       ·rw [if_neg c2, List.getElem?_append_right (by omega), l2, List.getElem?_drop]
        congr 2; omega
     rw [hget]
     have hold : ∀ i, i < xs.length → (i < lo ∨ lo + c ≤ i) → ∃ cs : Array Value, (∀ j, j < 1 → w'.cell? ⟨B, O + i + j, none⟩ = cs[j]?) ∧ RR w g 0 e me [] (.val cs) 0 (xs.getD i (dflt e)) := by
      intro i hi hout
      obtain ⟨cs, e1, e2⟩ := o4 i hi
      refine ⟨cs, fun j hj => ?_, e2⟩
      have hj0 : j = 0 := by omega
      subst hj0
      rw [hW.out _ (by rw [hl]; omega), ← e1 0 (by rw [sz_cell hce]; omega), sz_cell hce, Nat.mul_one]
      have hlt : i < olds.length := by omega
      have := o3 _ rfl i olds[i] (by simp [hlt])
      rw [addr_add] at this
      simp only [Nat.add_zero]
      rw [this]; simp [hlt]
     by_cases c1 : i < lo
     ·rw [if_pos c1]; exact hold i hi (.inl c1)
     ·rw [if_neg c1]
      by_cases c2 : i < lo + c
      ·rw [if_pos c2]
       obtain ⟨cs, e1, e2⟩ := n4 (i - lo) (by omega)
       refine ⟨cs, fun j hj => ?_, e2⟩
       have hj0 : j = 0 := by omega
       subst hj0
       rw [← e1 0 (by rw [sz_cell hce]; omega), sz_cell hce, Nat.mul_one]
       have := hcells (i - lo) (by omega)
       rw [show O + lo + (i - lo) = O + i + 0 by omega] at this
       rw [this, List.getElem?_take, if_pos (by omega)]
       rfl
      ·rw [if_neg c2]; exact hold i hi (.inr (by omega))
    ·rw [hb] at hbox; cases hbox

theorem V_done {st' : St} {g' : Gh} {w' : World} {U' : Nat → Prop} (hd : DstOK mu o a) {av : AV} {v : Value} (hrun : (execOp a.eval o).run P w = .ok (.value v) w') (hI' : Inv w0 mu st'.get (Vals a) U' w' g') (hv : VR w' g' st'.get av v) (hst : stampOK U' av) (how : isOw av = false) {next : Act → World → Prop} {Q : Exit → Act → World → Prop} (hn : NextOK w0 mu o a U' st' av next) : o.wp P a w next Q := by
 unfold Oper.wp
 rw [hrun, Oper.upon_value]
 cases hdst : o.dst with
 | none => exact hn _ w' g' (by rw [hdst]; exact hI') rfl rfl (fun _ _ => rfl)
 | some d =>
  obtain ⟨h1, h2⟩ := hd d hdst
  exact hn _ w' g' (by rw [hdst]; exact put_free hI' h1 h2 hv hst how) (by simp [Act.put]) rfl (fun s hs => by rw [← hdst]; exact put_same s hs)

theorem step_copy (hT : TabOK P T) (hU : New U st.c) (hI : Inv w0 mu st.get (Vals a) U w g) (hd : DstOK mu o a) {c : Call} (ho : o.op = .call c) (hc : c.callee = .builtin .copy) (h : step T Φ o st K = some r) : StepOK P w0 mu (Nw U st.c) o a w K r := by
 unfold step at h; rw [ho] at h; simp only [hc] at h
 split at h
 ·rename_i x y t u hargs htys
  split at h
  ·rename_i ty hty
   obtain ⟨ax, h1, hvx, hsx, _⟩ := opd_sound hI h
   obtain ⟨ay, h2, hvy, hsy, _⟩ := opd_sound hI h1
   clear h h1
   obtain ⟨cs, he⟩ := exec_builtin (ρ := a.eval) ho hc
   have hexec : execOp a.eval o = (do pure (.value (← Builtin.copy_ c.argTypes o.type (c.args.map a.eval)))) := by rw [he]; rfl
   rw [toList_two hargs, toList_two htys] at hexec
   simp only [List.map_toArray, List.map_cons, List.map_nil] at hexec
   unfold copyD at h2
   obtain ⟨e', m, ys, adx, cx, h3, hx, _, hE⟩ := asList_els hI h2 hvy
   clear h2
   split at h3
   ·rename_i hg
    simp only [Bool.and_eq_true, decide_eq_true_eq] at hg
    obtain ⟨⟨hce, hfl⟩, rfl⟩ := hg
    split at h3
    ·rename_i s n p lo len hdst
     split at h3
     ·rename_i o' ho'
      obtain ⟨hb, h4⟩ := guardK_some h3
      clear h3
      simp only [Bool.not_eq_true'] at hb
      obtain ⟨e, m2, xs, hat, hm2, h5⟩ := Own.sl_some h4
      clear h4
      split at h5
      ·rename_i he2; subst he2
       split at h5
       ·rename_i nz me
        split at h5
        ·rename_i hme
         split at h5
         ·rename_i o1 hup
          rw [AV.force_eq] at h5
          obtain ⟨hok, ad, cap, adv, capv, hH, hv', hlo, hadv⟩ := dst_sound hI hdst hvx ho' hat rfl hce
          obtain ⟨w', hrun, hI'⟩ := copy_core (u := u) (ty := o.type) (capv := capv) (cx := cx) hT hI hU ho' hb hok hat hme hce ((hT _).1 _ hty).1 hH hlo hadv (hE me hfl) hup
          rw [← hv', ← hx] at hrun
          exact ⟨_, _, h5, fun next Q hn => V_done hd (exec_v hexec hrun) hI' (VR_of_int _ _) trivial rfl hn⟩
         ·cases h5
        ·cases h5
       ·cases h5
      ·cases h5
     ·cases h3
    ·cases h3
   ·cases h3
  ·cases h
 ·cases h

/-- what a slot's box owned is shared -/
def Gh.frz (g : Gh) (s : Nat) : Gh where
 col b := match g.col b with
  | some (s', c :: q) => if s' = s then none else some (s', c :: q)
  | k => k
 H := g.H
 A := g.A
theorem frz_none {g : Gh} {s b : Nat} (h : g.col b = none) : (g.frz s).col b = none := by simp [Gh.frz, h]
theorem frz_root {g : Gh} {s s' b : Nat} (h : g.col b = some (s', [])) : (g.frz s).col b = some (s', []) := by simp [Gh.frz, h]
theorem frz_own {g : Gh} {s b : Nat} {p : List Stp} (hp : p ≠ []) (h : g.col b = some (s, p)) : (g.frz s).col b = none := by
 cases p with
 | nil => exact absurd rfl hp
 | cons c q => simp [Gh.frz, h]
theorem frz_else {g : Gh} {s u b : Nat} {p : List Stp} (hu : u ≠ s) (h : g.col b = some (u, p)) : (g.frz s).col b = some (u, p) := by
 cases p with
 | nil => simp [Gh.frz, h]
 | cons c q => simp [Gh.frz, h, hu]
theorem frz_back {g : Gh} {s b : Nat} {k : Nat × List Stp} (h : (g.frz s).col b = some k) : g.col b = some k := by
 cases hb : g.col b with
 | none => rw [frz_none hb] at h; cases h
 | some c =>
  obtain ⟨u, p⟩ := c
  cases p with
  | nil => rw [frz_root hb] at h; exact h
  | cons d q =>
   by_cases hu : u = s
   ·subst hu; rw [frz_own (by simp) hb] at h; cases h
   ·rw [frz_else hu hb] at h; exact h
theorem frz_sh {g : Gh} {s b : Nat} {l : Bool} (h : shared g.col l b) : shared (g.frz s).col l b := by
 rcases h with h | ⟨hl, h⟩
 ·exact .inl (frz_none h)
 ·exact .inr ⟨hl, frz_root h⟩

theorem RR_frz {g : Gh} {s : Nat} : ∀ (t : Ty) (m : Md) (p : List Stp) (src : Src) (k : Nat) (x : den t), RR w g s t m p src k x → leM t k m (.bor false false) = true → p ≠ [] → RR w (g.frz s) s t (.bor false false) p src k x := by
 have go : ∀ (t : Ty) (m : Md) (p : List Stp) (src : Src) (k : Nat) (x : den t), RR w g s t m p src k x → leM t k m (.bor false false) = true → p ≠ [] → RO w (g.frz s).col false t (rdS w src) k x := fun t m p src k x h hl hp =>
  RR_toRO (l := false) (col' := (g.frz s).col) (Nat.le_refl _) (fun b l0 _ hb hb' => ⟨rfl, by
   cases l0 with
   | true => cases hb'
   | false => exact frz_sh hb⟩) t m false p src k x (rdS w src) h hl (fun b r hb => ⟨rfl, .inl (frz_own (by simp [hp]) hb)⟩) (fun _ _ => rfl)
 intro t
 induction t with
 | int kd => intro m p src k x h _ _; exact h
 | bool => intro m p src k x h _ _; exact h
 | unit => intros; trivial
 | sl e _ =>
  intro m p src k x h hl hp
  have := go _ _ _ _ _ _ h hl hp
  simp only [RR, Md.isOwn]
  exact ⟨this, fun h => by cases h⟩
 | mp kt et _ _ =>
  intro m p src k x h hl hp
  have := go _ _ _ _ _ _ h hl hp
  simp only [RR, Md.isOwn]
  exact this
 | bx e _ =>
  intro m p src k x h hl hp
  have := go _ _ _ _ _ _ h hl hp
  simp only [RR, Md.isOwn]
  exact this
 | pair a b iha ihb =>
  intro m p src k x h hl hp
  simp only [RR, leM, Bool.and_eq_true, fld_bor] at h hl ⊢
  obtain ⟨hc, hcb, hA, h1, h2⟩ := h
  exact ⟨hc, hcb, hA, iha _ _ _ _ _ h1 (by rw [leM_cell hc k 0]; exact hl.1) (by simp), ihb _ _ _ _ _ h2 hl.2 hp⟩

theorem Inv_frz (hU : New U st.c) {val : Nat → Value} (hI : Inv w0 mu st.get val U w g) {s n1 u : Nat} {t : Ty} {m : Md} {x : den t} (hq : st.get s = .box n1 u t m x) (hl : leM t 0 m (.bor false false) = true) :
  Inv w0 mu (st.set s (.box n1 st.c t (.bor false false) x)).get val (Nw U st.c) w (g.frz s) ∧ ∀ v, VR w g st.get (.pl s n1 [.dr]) v → VR w (g.frz s) (st.set s (.box n1 st.c t (.bor false false) x)).get (.pl s n1 [.dr]) v := by
 have hs := hI.slots s
 rw [hq] at hs
 obtain ⟨b, c, el, h1, h2, h3, h4, h5, h6⟩ := hs
 have hst := hI.stamps s
 rw [hq] at hst
 have hown0 : ∀ n', U n' → own? (.box n1 st.c t (.bor false false) x) n' = none := fun n' hn' => by
  simp only [own?]
  cases hb : Nat.beq n' st.c with
  | true => have := Nat.eq_of_beq_eq_true hb; subst this; exact absurd hn' hU.1
  | false => rfl
 refine ⟨Inv_upd hI (fun v => v = s) (fun _ => Nw_old) (Nat.le_refl _) (fun b l0 _ hb => ⟨rfl, frz_sh hb⟩) (fun v hv => ⟨by rw [get_set, if_neg hv], rfl, fun b r hb => ⟨rfl, by rw [frz_else hv hb, hb]⟩, fun _ => rfl, fun _ => rfl⟩) ?_ ?_ ?_
  (fun b k hb => hI.cols b k (frz_back hb)) hI.fr (fun v hv => ?_) (fun b hb => frz_root hb) (.inl fun v hv n' hn' => by subst hv; rw [get_set, if_pos rfl]; exact hown0 n' hn'), ?_⟩
 ·intro v hv n' hn' o' ho'
  subst hv
  rw [get_set, if_pos rfl, hown0 n' hn'] at ho'
  cases ho'
 ·intro v hv n' p' hn' o'' h7
  subst hv
  rw [get_set, if_pos rfl] at h7
  have h8 : Nat.beq n' st.c = false := by
   cases hb : Nat.beq n' st.c with
   | true => have := Nat.eq_of_beq_eq_true hb; subst this; exact absurd hn' hU.1
   | false => rfl
  simp only [ownP?, h8, Bool.or_false] at h7
  split at h7
  ·rename_i h9
   simp only [Option.some.injEq] at h7
   subst h7
   refine ⟨⟨true, t, m, x⟩, by rw [hq]; simp [ownP?, h9], fun h10 _ => ?_⟩
   simp only [Bool.and_eq_true] at h9
   cases p' with
   | nil => simp [Own.ok] at h10
   | cons c q' =>
    cases c with
    | dr => exact ⟨okP_shallow q' _ _ _ _ _ h9.2 h10, .inl rfl, rfl⟩
    | fld _ => simp [Own.ok] at h10
    | el _ => simp [Own.ok] at h10
  ·cases h7
 ·intro v hv
  subst hv
  rw [get_set, if_pos rfl]
  exact ⟨⟨b, c, el, h1, frz_root h2, h3, h4, h5, RR_frz t m [.dr] _ 0 x h6 hl (by simp)⟩, Nw_old hst.1, Nw_0⟩
 ·have : v ≠ s := fun h => by have := hI.far v hv; rw [h, hq] at this; cases this
  rw [get_set, if_neg this]
  exact hI.far v hv
 ·intro v hv o' ho'
  rw [get_set, if_pos rfl] at ho'
  have ho : ownP? (st.get s) n1 [.dr] = some ⟨true, t, m, x⟩ := by rw [hq]; simp [ownP?, shallowD, shallow]
  obtain ⟨h7, _, _⟩ := hv _ ho
  have : o' = ⟨true, t, .bor false false, x⟩ := by simpa [ownP?, shallowD, shallow] using ho'.symm
  subst this
  exact ⟨h7, trivial, .inl rfl⟩

/-- a box is read whole: what it owned is shared from now on -/
theorem step_load_frz (hT : TabOK P T) (hU : New U st.c) (hI : Inv w0 mu st.get (Vals a) U w g) (hd : DstOK mu o a) {t : TypeId} {x : Operand} (ho : o.op = .load t x) (hm : noTup st o = false) (h : step T Φ o st K = some r) : StepOK P w0 mu (Nw U st.c) o a w K r := by
 unfold step at h; rw [ho] at h; simp only at h
 split at h
 ·rename_i ty ht
  rw [opd_bind] at h
  unfold noTup at hm
  rw [ho] at hm
  simp only at hm
  cases hq : opd st x some with
  | none => rw [hq] at h; cases h
  | some ax =>
   rw [hq, Option.bind_some] at h
   rw [hq] at hm
   simp only at hm
   obtain ⟨ax', h', hx, _, _⟩ := opd_sound hI hq
   obtain rfl := Option.some.inj h'
   cases hf : frz st ax' with
   | none => rw [hf] at hm; cases hm
   | some st' =>
    rw [hf] at h
    simp only at h
    unfold Go.Ab.frz at hf
    split at hf
    ·rename_i s n p
     split at hf
     ·rename_i n1 u tb mb xb hqs
      split at hf
      ·rename_i hg
       simp only [Bool.and_eq_true] at hg
       obtain ⟨⟨⟨g1, g2⟩, g3⟩, g4, g5⟩ := hg
       have g1 := Nat.eq_of_beq_eq_true g1
       have g2 := eqP_ok g2
       subst g1 g2
       cases hf
       obtain ⟨hI', hv⟩ := Inv_frz hU hI hqs g5
       obtain ⟨av, v, hk, h1, h2, h3, h4⟩ := loadD_sound hT hI' ht h (hv _ hx)
       exact ⟨av, _, hk, fun next Q hn => V_done hd (exec_v (by simp only [execOp, ho] <;> rfl) h1) hI' h2 h3 h4 hn⟩
      ·cases hf
     ·cases hf
    ·cases hf
 ·cases h
end
end Go.Ab
