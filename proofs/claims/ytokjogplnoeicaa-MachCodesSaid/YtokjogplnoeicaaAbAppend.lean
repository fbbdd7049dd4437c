/- append. -/
import Derived.Test.YtokjogplnoeicaaAbKeep
namespace Go.Ab

section
variable {P : Program} {T : Tab} {Φ : Nat → Option Contract} {w0 w : World} {mu : Mu} {st : St} {a : Act} {g : Gh} {R : Type} {o : Oper} {K : AV → St → Option R} {r : R} {val : Nat → Value} {U : Nat → Prop}

/-- what has no slice in it hangs on nothing -/
theorem RR_flat {w w' : World} {g g' : Gh} {s s' : Nat} : ∀ (t : Ty) (m m' : Md) (p p' : List Stp) (src : Src) (cs : Array Value) (k k' : Nat) (x : den t), flat t = true → RR w g s t m p src k x →
  (isCell t = false → k' = k) → (∀ j, j < sz t → cs[k' + j]? = rdS w src (k + j)) → RR w' g' s' t m' p' (.val cs) k' x := by
 intro t
 induction t with
 | int kd => intro m m' p p' src cs k k' x _ h _ hr; have := hr 0 (by simp [sz]); simp at this; simp only [RR, rdS] at *; rw [this]; exact h
 | bool => intro m m' p p' src cs k k' x _ h _ hr; have := hr 0 (by simp [sz]); simp at this; simp only [RR, rdS] at *; rw [this]; exact h
 | unit => intros; trivial
 | mp => intro m m' p p' src cs k k' x hf; cases hf
 | bx => intro m m' p p' src cs k k' x hf; cases hf
 | sl => intro m m' p p' src cs k k' x hf; cases hf
 | pair a b iha ihb =>
  intro m m' p p' src cs k k' x hf h hk hr
  have hk := hk rfl
  subst hk
  simp only [flat, Bool.and_eq_true] at hf
  simp only [RR] at *
  obtain ⟨hc, hcb, _, h1, h2⟩ := h
  have hsa := sz_cell hc
  refine ⟨hc, hcb, (fun _ _ h => by cases h), iha _ _ _ _ _ _ _ _ _ hf.1 h1 (fun _ => rfl) fun j hj => hr j (by simp [sz]; omega),
   ihb _ _ _ _ _ _ _ _ _ hf.2 h2 (fun _ => rfl) fun j hj => ?_⟩
  have := hr (j + 1) (by simp [sz]; omega)
  rw [show k' + 1 + j = k' + (j + 1) by omega]; exact this

theorem RR_valcells {s : Nat} {t : Ty} {m : Md} {p : List Stp} {src : Src} {k : Nat} {x : den t} (h : RR w g s t m p src k x) : ∃ cs : Array Value, ∀ j, j < sz t → cs[j]? = rdS w src (k + j) := by
 obtain ⟨cs, h1, h2, _⟩ := RR_cells _ _ _ _ _ _ h
 refine ⟨cs.toArray, fun j hj => ?_⟩
 have hj' : j < cs.length := by omega
 rw [h2 j cs[j] (by simp [hj'])]
 simp [hj']

/-- elements of a slice, each free-standing -/
def Els (w : World) (g : Gh) (e : Ty) (m : Md) (ad : Option Addr) (xs : List (den e)) : Prop := match ad with
 | none => xs = []
 | some ad => (xs = [] ∨ ad.spot = none) ∧ ∀ i, i < xs.length → ∃ cs : Array Value, (∀ j, j < sz e → w.cell? ⟨ad.block, ad.off + i * sz e + j, none⟩ = cs[j]?) ∧ RR w g 0 e m [] (.val cs) 0 (xs.getD i (dflt e))

theorem Els_congr {g' : Gh} {e : Ty} {m : Md} {ad : Option Addr} {xs : List (den e)} (h : Els w g e m ad xs) (hm : m.hasOwn = false) (hk : Kept w g g') : Els w g' e m ad xs := by
 cases ad with
 | none => exact h
 | some ad =>
  refine ⟨h.1, fun i hi => ?_⟩
  obtain ⟨cs, h1, h2⟩ := h.2 i hi
  exact ⟨cs, h1, RR_free (Nat.le_refl _) (fun b l0 hb hs => ⟨rfl, hk b l0 hb hs⟩) e m [] [] _ _ 0 0 _ h2 hm (fun _ => rfl) (fun _ _ => rfl)⟩

/-- an owned slice's elements that are not owned -/
theorem Els_own {s : Nat} {e : Ty} {nz : Bool} {me : Md} {p : List Stp} {src : Src} {k : Nat} {x : List (den e)} {g' : Gh} (h : RR w g s (.sl e) (.own nz me) p src k x) (hme : me.hasOwn = false) (hk : Kept w g g') {ad : Option Addr} {cap : Nat} (hH : g.H s p = .slice ad x.length cap) :
  Els w g' e me ad x ∧ x.length ≤ cap ∧ (nz = true → x = [] → ad = none) ∧ match (generalizing := false) ad with
   | none => cap = 0
   | some ad => ad.spot = none ∧ g.col ad.block = some (s, p) ∧ ∃ c el, w.heap[ad.block]? = some (.cells c el (0, 0)) ∧ ad.off + cap * sz e ≤ c.size := by
 simp only [RR, Md.isOwn, Md.nz?] at h
 obtain ⟨a', c', h1, h2, h3, h4, h5⟩ := h
 rw [hH] at h2
 simp only [Value.slice.injEq] at h2
 obtain ⟨rfl, _, rfl⟩ := h2
 refine ⟨?_, h3, h4, ?_⟩
 ·cases ad with
  | none => exact h5.1
  | some ad =>
   refine ⟨.inr h5.1, fun i hi => ?_⟩
   obtain ⟨_, h6⟩ := h5.2.2.2 i hi
   obtain ⟨cs, h7⟩ := RR_valcells h6
   refine ⟨cs, fun j hj => by rw [h7 j hj]; simp [rdS], RR_free (Nat.le_refl _) (fun b l0 hb hs => ⟨rfl, hk b l0 hb hs⟩) e me _ [] _ cs 0 0 _ h6 hme (fun _ => rfl) fun j hj => by have := h7 j hj; rw [Nat.zero_add]; rw [Nat.zero_add] at this; exact this⟩
 ·cases ad with
  | none => exact h5.2
  | some ad => exact ⟨h5.1, h5.2.1, h5.2.2.1⟩

theorem asList_els (hI : Inv w0 mu st.get val U w g) {av : AV} {v : Value} {k : (e : Ty) → Md → List (den e) → Option R} {r : R} (h : asList st av k = some r) (hv : VR w g st.get av v) :
  ∃ e m x ad cap, k e m x = some r ∧ v = .slice ad x.length cap ∧ x.length ≤ cap ∧ ∀ m', flat e = true → Els w g e m' ad x := by
 unfold asList at h
 split at h
 ·rename_i e m x
  obtain ⟨hm, hs, hr⟩ := hv
  have hmo := isOwn_hasOwn hm
  simp only [RR, hmo, RO] at hr
  obtain ⟨⟨ad, cap, h1, h2, h3⟩, _⟩ := hr
  rw [shape_cell rfl hs] at h1
  simp only [rdS] at h1
  refine ⟨e, _, x, ad, cap, h, by simpa using h1, h2, fun m' hf => ?_⟩
  cases ad with
  | none => exact h3.1
  | some ad =>
   refine ⟨h3.imp (fun h => List.eq_nil_of_length_eq_zero (by omega)) (·.1), fun i hi => ?_⟩
   have h3 := h3.resolve_left (by intro h; omega)
   have h6 := h3.2.2.2 i hi
   obtain ⟨cs, h7, h8, _⟩ := RO_cells e _ 0 _ h6
   have h9 : ∀ j, j < sz e → cs.toArray[j]? = w.cell? ⟨ad.block, ad.off + i * sz e + j, none⟩ := fun j hj => by
    have hj' : j < cs.length := by omega
    have := h8 j cs[j] (by simp [hj'])
    rw [Nat.zero_add] at this
    rw [this]; simp [hj']
   refine ⟨cs.toArray, fun j hj => (h9 j hj).symm, ?_⟩
   have h10 := RO_RR (g := g) (s := 0) e [] _ cs.toArray 0 _ h6 fun j hj => by rw [Nat.zero_add]; exact h9 j hj
   exact RR_flat e _ m' [] [] _ _ 0 0 _ hf h10 (fun _ => rfl) (fun _ _ => rfl)
 ·rename_i s n p
  split at h
  ·rename_i o ho
   obtain ⟨e, m, x, hat, hm, h⟩ := Own.sl_some h
   obtain ⟨h1, hok⟩ := hv o ho
   obtain ⟨ad, cap, h2, h3⟩ := alias_node hI ho hok hat hm
   simp only [RR, hm] at h3
   obtain ⟨ad', cap', h4, h5, h6, _, h7⟩ := h3
   rw [h2] at h5
   simp only [Value.slice.injEq] at h5
   obtain ⟨rfl, _, rfl⟩ := h5
   refine ⟨e, _, x, ad, cap, h, by rw [h1, h2], h6, fun m' hf => ?_⟩
   cases ad with
   | none => exact h7.1
   | some ad =>
    refine ⟨.inr h7.1, fun i hi => ?_⟩
    obtain ⟨_, h8⟩ := h7.2.2.2 i hi
    obtain ⟨cs, h9⟩ := RR_valcells h8
    exact ⟨cs, fun j hj => by rw [h9 j hj]; simp [rdS], RR_flat e _ m' _ [] _ cs 0 0 _ hf h8 (fun _ => rfl) fun j hj => by have := h9 j hj; rw [Nat.zero_add] at this ⊢; exact this⟩
  ·cases h
 ·rename_i s n p lo len cp
  split at h
  ·rename_i o ho
   obtain ⟨e, m, x, hat, hm, h⟩ := Own.sl_some h
   obtain ⟨hok, e', m', x', ad, c, M, h1, h2, h3, h4, h5, h6, h7⟩ := hv o ho
   rw [hat] at h1
   simp only [Option.some.injEq, TV.mk.injEq, Ty.sl.injEq] at h1
   obtain ⟨rfl, rfl, h1⟩ := h1
   have h1 := eq_of_heq h1
   subst h1
   obtain ⟨ad', cap', h8, h9⟩ := alias_node hI ho hok hat hm
   rw [h2] at h8
   simp only [Value.slice.injEq] at h8
   obtain ⟨rfl, _, rfl⟩ := h8
   simp only [RR, hm] at h9
   obtain ⟨ad', cap', h10, h11, h12, _, h13⟩ := h9
   rw [h2] at h11
   simp only [Value.slice.injEq] at h11
   obtain ⟨rfl, _, rfl⟩ := h11
   have hlen : ((x.drop lo).take len).length = len := by simp; omega
   refine ⟨e, _, _, _, _, h, by rw [hlen]; exact h7, by rw [hlen]; omega, fun m' hf => ?_⟩
   cases ad with
   | none =>
    have hx : x = [] := h13.1
    have : (if M = lo then (none : Option Addr) else Option.map (fun x : Addr => x.add (lo * sz e)) none) = none := by split <;> rfl
    rw [this]
    subst hx
    simp [Els]
   | some ad =>
    have hspot := h13.1
    by_cases hM : M = lo
    ·rw [if_pos hM]
     refine ⟨.inr hspot, fun i hi => ?_⟩
     rw [hlen] at hi; omega
    ·rw [if_neg hM]
     have hadd : ad.add (lo * sz e) = ⟨ad.block, ad.off + lo * sz e, none⟩ := by
      obtain ⟨b, o, sp⟩ := ad
      simp only at hspot; subst hspot
      exact addr_add _ _ _
     simp only [Option.map_some, hadd]
     refine ⟨.inr rfl, fun i hi => ?_⟩
     rw [hlen] at hi
     obtain ⟨_, h8⟩ := h13.2.2.2 (lo + i) (by omega)
     obtain ⟨cs, h9⟩ := RR_valcells h8
     rw [getD_sub x _ h3 hi]
     refine ⟨cs, fun j hj => ?_, RR_flat e _ m' _ [] _ cs 0 0 _ hf h8 (fun _ => rfl) fun j hj => by have := h9 j hj; rw [Nat.zero_add] at this ⊢; exact this⟩
     rw [h9 j hj]
     simp only [rdS, Nat.zero_add]
     congr 2
     rw [Nat.add_mul]; omega
  ·cases h
 ·cases h

/-- the cells of elements, in a row -/
theorem Els_news {e : Ty} {m : Md} {ad : Option Addr} {xs : List (den e)} (h : Els w g e m ad xs) : ∃ news : List Value, news.length = xs.length * sz e ∧ (∀ u ∈ news, u.oneCell' = true) ∧ (∀ a, ad = some a → ∀ k u, news[k]? = some u → w.cell? (a.add k) = some u) ∧
  ∀ i, i < xs.length → ∃ cs : Array Value, (∀ j, j < sz e → news[i * sz e + j]? = cs[j]?) ∧ RR w g 0 e m [] (.val cs) 0 (xs.getD i (dflt e)) := by
 cases ad with
 | none => obtain rfl : xs = [] := h; exact ⟨[], by simp, by simp, by simp, by simp⟩
 | some ad =>
  obtain ⟨hsp, h⟩ := h
  rcases hsp with rfl | hsp
  ·exact ⟨[], by simp, by simp, by simp, by simp⟩
  obtain ⟨B, O, sp⟩ := ad
  simp only at hsp; subst hsp
  have hcell : ∀ k, k < xs.length * sz e → ∃ c, w.cell? ⟨B, O + k, none⟩ = some c ∧ c.oneCell' = true := by
   intro k hk
   have hs : 0 < sz e := by
    rcases Nat.eq_zero_or_pos (sz e) with h0 | h0
    ·rw [h0] at hk; simp at hk
    ·exact h0
   have hi : k / sz e < xs.length := (Nat.div_lt_iff_lt_mul hs).2 hk
   obtain ⟨cs, h1, h2⟩ := h (k / sz e) hi
   have hj : k % sz e < sz e := Nat.mod_lt _ hs
   obtain ⟨ds, h3, h4, h5⟩ := RR_cells _ _ _ _ _ _ h2
   have hj' : k % sz e < ds.length := by omega
   have h6 := h4 (k % sz e) ds[k % sz e] (by simp [hj'])
   simp only [rdS, Nat.zero_add] at h6
   have h7 := h1 (k % sz e) hj
   rw [h6] at h7
   have h8 : O + k / sz e * sz e + k % sz e = O + k := by
    have := Nat.div_add_mod k (sz e)
    rw [Nat.mul_comm] at this
    omega
   rw [h8] at h7
   exact ⟨_, h7, h5 _ (List.getElem_mem hj')⟩
  refine ⟨(List.range (xs.length * sz e)).map fun k => (w.cell? ⟨B, O + k, none⟩).getD undef, by simp, ?_, ?_, ?_⟩
  ·intro u hu
   obtain ⟨k, hk, rfl⟩ := List.mem_map.1 hu
   obtain ⟨c, h1, h2⟩ := hcell k (by simpa using hk)
   rw [h1]; exact h2
  ·intro a ha k u hu
   cases ha
   rw [List.getElem?_map] at hu
   cases hr : (List.range (xs.length * sz e))[k]? with
   | none => rw [hr] at hu; cases hu
   | some k' =>
    rw [hr] at hu
    obtain ⟨hk1, hk2⟩ := List.getElem?_eq_some_iff.1 hr
    simp at hk1 hk2
    subst hk2
    obtain ⟨c, h1, _⟩ := hcell k hk1
    simp only [Option.map_some, h1, Option.getD_some, Option.some.injEq] at hu
    rw [addr_add, h1, hu]
  ·intro i hi
   obtain ⟨cs, h1, h2⟩ := h i hi
   refine ⟨cs, fun j hj => ?_, h2⟩
   have hk : i * sz e + j < xs.length * sz e := by
    have : (i + 1) * sz e ≤ xs.length * sz e := Nat.mul_le_mul_right _ (by omega)
    rw [Nat.add_mul, Nat.one_mul] at this
    omega
   obtain ⟨c, h3, _⟩ := hcell _ hk
   rw [← h1 j hj]
   simp [List.getElem?_map, hk, h3, show O + i * sz e + j = O + (i * sz e + j) by omega]

/-- what the second argument yields -/
theorem src_of {e : Ty} {u : TypeId} (hT : ∃ te, P.underlying u = some (.slice te)) {ad : Option Addr} {n c : Nat} {news : List Value} (hl : news.length = n * sz e) (h1 : ∀ v ∈ news, v.oneCell' = true) (hn : ad = none → n = 0) (hc : ∀ a, ad = some a → ∀ k v, news[k]? = some v → w.cell? (a.add k) = some v) :
  _root_.Go.Src P (sz e) u (.slice ad n c) n news w := by
 obtain ⟨te, h2⟩ := hT
 cases ad with
 | none =>
  have := hn rfl
  subst this
  have : news = [] := by simpa using hl
  subst this
  exact _root_.Go.Src.ofNil w h2 c
 | some a => exact _root_.Go.Src.ofSlice w h2 a n c news hl (hc a rfl) h1

/-- there is room -/
theorem append_room_run {e : Ty} {t u ty : TypeId} (hT : TM P (.sl e) t) {B O len cap n : Nat} {x : Value} {news : List Value} (hs : _root_.Go.Src P (sz e) u x n news w) (hroom : len + n ≤ cap) {cur : Array Value} {el : TypeId} (hB : w.heap[B]? = some (.cells cur el (0, 0))) (hO : O + cap * sz e ≤ cur.size) :
  (Builtin.append_ #[t, u] ty #[.slice (some ⟨B, O, none⟩) len cap, x]).run P w =
   .ok (.slice (some ⟨B, O, none⟩) (len + n) cap) (w.setRow B (cur.toList.take (O + len * sz e) ++ news ++ cur.toList.drop (O + len * sz e + news.length)).toArray) := by
 obtain ⟨te, h1, h2, _⟩ := hT
 have hsz := TM_sizeOf h2 w
 have hle : (len + n) * sz e ≤ cap * sz e := Nat.mul_le_mul_right _ hroom
 rw [Nat.add_mul] at hle
 have hst := run_storeCells_at P B (O + len * sz e) el news 0 cur w hB (by simp [hs.newsLen]; omega) hs.one
 simp only [Nat.add_zero] at hst
 rcases hs.kind with ⟨e', hk⟩ | hk <;> simp [Builtin.append_, run_underlying h1, run_underlying hk, hsz, hs.len, hroom, hs.cells, addr_add, hst]
theorem append_nil_run {e : Ty} {t u ty : TypeId} (hT : TM P (.sl e) t) {cap : Nat} {x : Value} (hs : _root_.Go.Src P (sz e) u x 0 [] w) :
  (Builtin.append_ #[t, u] ty #[.slice none 0 cap, x]).run P w = .ok (.slice none 0 cap) w := by
 obtain ⟨te, h1, h2, _⟩ := hT
 have hsz := TM_sizeOf h2 w
 rcases hs.kind with ⟨e', hk⟩ | hk <;> simp [Builtin.append_, run_underlying h1, run_underlying hk, hsz, hs.len, hs.cells]

/-- there is none -/
theorem append_grow_run {e : Ty} {t u ty : TypeId} (hT : TM P (.sl e) t) {base : Option Addr} {len cap n : Nat} {x : Value} {olds news : List Value} (hs : _root_.Go.Src P (sz e) u x n news w) (hg : cap < len + n) (hlim : len + n ≤ lim)
  (hol : olds.length = len * sz e) (ho1 : ∀ v ∈ olds, v.oneCell' = true) (hon : base = none → len = 0) (hoc : ∀ a, base = some a → ∀ k v, olds[k]? = some v → w.cell? (a.add k) = some v) :
  ∃ te C c', (Builtin.append_ #[t, u] ty #[.slice base len cap, x]).run P w = .ok (.slice (some ⟨w.heap.size, 0, none⟩) (len + n) c') (w.drew.alloc (.cells C te)) ∧ len + n ≤ c' ∧ c' * sz e ≤ C.size ∧
   ∀ k, k < (olds ++ news).length → C[k]? = (olds ++ news)[k]? := by
 obtain ⟨te, h1, h2, _⟩ := hT
 obtain ⟨i, z, h3, h4, h5, h6, h7, h8⟩ := TM_zero h2
 have hlim : len + n ≤ 4294967296 := hlim
 have hsz : i.size = sz e := h5
 have hold : (Builtin.firstCells i.size len (.slice base len cap)).run P w.drew = .ok olds.toArray w.drew := by
  cases base with
  | none =>
   have := hon rfl
   subst this
   have : olds = [] := by simpa using hol
   subst this
   exact run_firstCells_none _ _ _ _ _
  | some a => exact run_firstCells_some w.drew i.size len a len cap olds (by rw [hsz]; exact hol) (by simpa using hoc a rfl)
 have hfit : Builtin.nextslicecap (len + n) cap * i.bytes ≤ 281474976710656 := by
  have h9 := nextslicecap_le hg
  have h10 : Builtin.nextslicecap (len + n) cap * i.bytes ≤ (2 * (len + n)) * 256 := Nat.mul_le_mul h9 h6
  omega
 have hrun := run_append_grow_src (P := P) w t u ty te i z h1 h3 h4 base len cap olds hold x n news (by rw [hsz]; exact hs) hg (by omega) hfit
 have hcap : len + n ≤ grownCap w (len + n) cap te := by
  unfold grownCap
  exact grownCap_ge w _ _ _
 refine ⟨te, _, _, hrun, hcap, ?_, ?_⟩
 ·have hzs : z.cells.size = sz e := shape_size h8
  simp [Builtin.zeroCells, hzs, hol, hs.newsLen]
  rw [← Nat.add_mul, ← Nat.add_mul]
  exact Nat.mul_le_mul_right _ (by omega)
 ·intro k hk
  rw [Array.getElem?_append_left (by simpa using hk)]
  simp

/-- what the base of an append is -/
structure BaseR (w : World) (g : Gh) (st st1 : St) (e : Ty) (nz : Bool) (me : Md) (cp : Bool) (xs : List (den e)) (v : Value) : Prop where
 own : me.hasOwn = false
 dead : st1 = st ∨ ∃ s0, s0 ≠ lentC.1 ∧ st1 = st.set s0 .dead
 hdr : ∃ ad cap, v = .slice ad xs.length cap ∧ xs.length ≤ cap ∧ Els w g e me ad xs ∧ (nz = true → xs = [] → ad = none) ∧ (cp = true → cap = xs.length) ∧ (ad = none → cap = 0 ∨ cp = true) ∧
  ∀ a, ad = some a → cp = true ∨ ∃ s0 p, s0 ≠ lentC.1 ∧ st1 = st.set s0 .dead ∧ a.spot = none ∧ g.col a.block = some (s0, p) ∧ ∃ c el, w.heap[a.block]? = some (.cells c el (0, 0)) ∧ a.off + cap * sz e ≤ c.size

theorem baseD_sound (hI : Inv w0 mu st.get val U w g) {av : AV} {e : Ty} {m : Md} {v : Value} {k : Bool → Md → Bool → List (den e) → St → Option R} {r : R} (h : baseD st av e m k = some r) (hv : VR w g st.get av v) :
  ∃ nz me cp xs st1, k nz me cp xs st1 = some r ∧ BaseR w g st st1 e nz me cp xs v := by
 unfold baseD at h
 split at h
 ·split at h
  ·rename_i nz me
   split at h
   ·rename_i hme
    obtain rfl : v = .slice none 0 0 := hv
    exact ⟨nz, me, false, [], st, h, hme, .inl rfl, none, 0, rfl, Nat.le_refl _, rfl, fun _ _ => rfl, (fun h => by cases h), fun _ => .inl rfl, fun a ha => by cases ha⟩
   ·cases h
  ·cases h
 ·rename_i s n p
  split at h
  ·rename_i o ho
   obtain ⟨e', m', x, hat, hm, h⟩ := Own.sl_some h
   split at h
   ·rename_i nz me
    split at h
    ·rename_i hme
     split at h
     ·rename_i he; subst he
      obtain ⟨h1, hok⟩ := hv o ho
      obtain ⟨ad, cap, h2, h3⟩ := alias_node hI ho hok hat hm
      obtain ⟨h4, h5, h6, h7⟩ := Els_own h3 hme Kept.refl h2
      refine ⟨nz, me, false, x, _, h, hme, .inr ⟨s, own_ne_lent hI ho, rfl⟩, ad, cap, by rw [h1, h2], h5, h4, h6, (fun h => by cases h), ?_, ?_⟩
      ·rintro rfl; exact .inl h7
      ·rintro a rfl
       obtain ⟨h8', h8, c, el, h9, h10⟩ := h7
       exact .inr ⟨s, p, own_ne_lent hI ho, rfl, h8', h8, c, el, h9, h10⟩
     ·cases h
    ·cases h
   ·cases h
  ·cases h
 ·rename_i s n p lo len
  split at h
  ·rename_i o ho
   obtain ⟨e', m', x, hat, hm, h⟩ := Own.sl_some h
   split at h
   ·rename_i nz me
    split at h
    ·rename_i hme
     split at h
     ·rename_i he; subst he
      obtain ⟨h1, h2, h3⟩ := sub_node hI ho hv hat hme
      have hlen : ((x.drop lo).take len).length = len := by simp; omega
      obtain ⟨hok, e'', m'', x', a, c, M, g1, g2, g3, g4, g5, g6, g7⟩ := hv o ho
      have hH : (g.reslice s p lo v).H s p = .slice (if M = lo then a else a.map (·.add (lo * sz e''))) ((x.drop lo).take len).length (M - lo) := by
       rw [hlen]; simp [Gh.reslice, g7]
      obtain ⟨h4, h5, h6, h7⟩ := Els_own (g' := g) h1 hme (fun b l _ h => h) hH
      refine ⟨false, me, false, _, _, h, hme, .inr ⟨s, own_ne_lent hI ho, rfl⟩, _, _, ?_, h5, h4, (fun h => by cases h), (fun h => by cases h), ?_, ?_⟩
      ·rw [hlen]; exact g7
      ·intro ha
       rw [ha] at h7; exact .inl h7
      ·intro ad ha
       rw [ha] at h7
       obtain ⟨h8', h8, c, el, h9, h10⟩ := h7
       exact .inr ⟨s, p, own_ne_lent hI ho, rfl, h8', h8, c, el, h9, h10⟩
     ·cases h
    ·cases h
   ·cases h
  ·cases h
 ·rename_i s n p lo len
  split at h
  ·rename_i o ho
   obtain ⟨e', m', x, hat, hm, h⟩ := Own.sl_some h
   split at h
   ·rename_i hf
    split at h
    ·rename_i he; subst he
     have hal : asList st (.sub s n p lo len true) (fun (e : Ty) (_ : Md) (xs : List (den e)) => some (⟨e, xs⟩ : (e : Ty) × List (den e))) = some ⟨e', (x.drop lo).take len⟩ := by
      simp only [asList, ho, Own.sl, hat, hm]
     obtain ⟨e2, m2, x2, ad, cap, h1, h2, h3, h4⟩ := asList_els hI hal hv
     simp only [Option.some.injEq, Sigma.mk.injEq] at h1
     obtain ⟨rfl, h1⟩ := h1
     have h1 := eq_of_heq h1
     subst h1
     obtain ⟨hok, e'', m'', x', a, c, M, g1, g2, g3, g4, g5, g6, g7⟩ := hv o ho
     have hlen : ((x.drop lo).take len).length = len := by
      rw [hat] at g1
      simp only [Option.some.injEq, TV.mk.injEq, Ty.sl.injEq] at g1
      obtain ⟨rfl, rfl, g1⟩ := g1
      have g1 := eq_of_heq g1
      subst g1
      simp; omega
     have hcap : cap = ((x.drop lo).take len).length := by
      rw [h2] at g7
      simp only [Value.slice.injEq] at g7
      rw [g7.2.2, g6 rfl, hlen]; omega
     refine ⟨false, .bor false false, true, _, _, h, rfl, .inl rfl, ad, cap, h2, h3, h4 _ hf, (fun h => by cases h), fun _ => hcap, fun _ => .inr rfl, fun a _ => .inl rfl⟩
    ·cases h
   ·cases h
  ·cases h
 ·cases h

/-- a row of slot d in block B, from off on -/
def Gh.rowAt (g : Gh) (s0 d B off s : Nat) (hdr : Value) : Gh where
 col b := if b = B then some (d, []) else match g.col b with
  | some (s', q) => if s' = s0 then none else some (s', q)
  | none => none
 H s' q := if s' = d then (match q with | [] => hdr | _ :: _ => .slice none 0 0) else g.H s' q
 A s' q := if s' = d then (match q with
  | [.el i] => (B, off + i * s)
  | [.el i, .fld j] => (B, off + i * s + j)
  | _ => (0, 0)) else g.A s' q

theorem Inv_room {w' : World} (hI : Inv w0 mu st.get val U w g) (hU : New U st.c) {s0 d B O : Nat} (hs0 : s0 ≠ lentC.1) (hd : ¬ mu.far d) {p : List Stp} (hB : g.col B = some (s0, p)) {e : Ty} {nz : Bool} {me : Md} (hme : me.hasOwn = false) {xs : List (den e)} {cap o' n' : Nat}
  (hW : Written w w' B o' n') (hFr : Fr w0 mu w') (hcap : xs.length ≤ cap) {c : Array Value} {el : TypeId} (hheap : w.heap[B]? = some (.cells c el (0, 0))) (hc : O + cap * sz e ≤ c.size) (hnz : nz = true → xs ≠ [])
  (hel : ∀ i, i < xs.length → ∃ cs : Array Value, (∀ j, j < sz e → w'.cell? ⟨B, O + i * sz e + j, none⟩ = cs[j]?) ∧ RR w g 0 e me [] (.val cs) 0 (xs.getD i (dflt e))) :
  Inv w0 mu (fun u => if u = d then .ow st.c (.sl e) (.own nz me) xs else if u = s0 then .dead else st.get u) (fun u => if u = d then .slice (some ⟨B, O, none⟩) xs.length cap else val u) (Nw U st.c) w'
   (g.rowAt s0 d B O (sz e) (.slice (some ⟨B, O, none⟩) xs.length cap)) := by
 have hsh : ∀ b l0, b < w.heap.size → shared g.col l0 b → w'.heap[b]? = w.heap[b]? ∧ shared (g.rowAt s0 d B O (sz e) (.slice (some ⟨B, O, none⟩) xs.length cap)).col l0 b := by
  intro b l0 hb hs
  have hne := shared_ne hB hs0 hs
  refine ⟨hW.other b hne, ?_⟩
  rcases hs with hs | ⟨hl, hs⟩
  ·left; simp [Gh.rowAt, hne, hs]
  ·right; refine ⟨hl, ?_⟩
   simp only [Gh.rowAt, hne, if_false, hs]
   rw [if_neg (fun h => hs0 h.symm)]
 refine Inv_put hI s0 d _ _ (fun _ => Nw_old) (Nat.le_of_eq hW.size.symm) hsh ?_ ?_ ?_ ?_ Nw_0 (fun n hn => own?_new hU hn) (fun n p hn => ownP?_new hU hn) ?_ hFr hd ?_
 ·intro b s r hb h1 h2
  have hne : b ≠ B := by
   rintro rfl
   rw [hB] at hb
   simp only [Option.some.injEq, Prod.mk.injEq] at hb
   exact h2 hb.1.symm
  refine ⟨hW.other b hne, ?_⟩
  simp only [Gh.rowAt, hne, if_false, hb, h2]
 ·intro s h1 _ q; simp only [Gh.rowAt, h1, if_false]
 ·intro s h1 _ q; simp only [Gh.rowAt, h1, if_false]
 ·refine ⟨rfl, ?_⟩
  simp only [RR, Md.isOwn]
  obtain ⟨c2, h3, h4⟩ := hW.obj _ _ _ hheap
  refine ⟨some ⟨B, O, none⟩, cap, by simp [Gh.rowAt, rdS]; rfl, by simp [Gh.rowAt], hcap, fun hz hx => absurd hx (hnz hz), rfl, by simp [Gh.rowAt], ⟨c2, el, h3, by simpa [h4] using hc⟩, fun i hi => ⟨by simp [Gh.rowAt], ?_⟩⟩
  obtain ⟨cs, h5, h6⟩ := hel i hi
  refine RR_repath (Nat.le_of_eq hW.size.symm) hsh e me [] _ _ _ 0 _ h6 hme ?_ fun j hj => ?_
  ·intro _ n b off hb _ _
   cases hb
   simp [Gh.rowAt]
  ·simp only [rdS, Nat.zero_add]
   exact h5 j hj
 ·intro b k hk
  simp only [Gh.rowAt] at hk
  split at hk
  ·rename_i hb; subst hb
   obtain ⟨h1, h2⟩ := hI.cols _ _ hB
   refine ⟨by rw [hW.size]; exact h1, .inr (h2.resolve_left fun h => hs0 (congrArg Prod.fst h))⟩
  ·cases hc : g.col b with
   | none => rw [hc] at hk; cases hk
   | some c =>
    obtain ⟨s', q⟩ := c
    rw [hc] at hk
    simp only at hk
    split at hk
    ·cases hk
    ·obtain ⟨h1, h2⟩ := hI.cols _ _ hc
     cases hk
     exact ⟨by rw [hW.size]; exact h1, h2⟩
 ·intro b hb
  have hne : b ≠ B := by
   rintro rfl
   rw [hB] at hb
   simp only [Option.some.injEq] at hb
   exact hs0 (congrArg Prod.fst hb)
  simp only [Gh.rowAt, hne, if_false, hb]
  rw [if_neg (fun h => hs0 h.symm)]

theorem getD_app {α : Type} (xs ys : List α) (d : α) (i : Nat) : (xs ++ ys).getD i d = if i < xs.length then xs.getD i d else ys.getD (i - xs.length) d := by
 simp only [List.getD_eq_getElem?_getD, List.getElem?_append]
 split <;> rfl

/-- an append, from its parts -/
theorem append_core (hI : Inv w0 mu st.get (Vals a) U w g) (hU : New U st.c) {d : Nat} (hd : ¬ mu.far d) {e : Ty} {t u ty : TypeId} (hTt : TM P (.sl e) t) {st1 : St} {nz : Bool} {me : Md} {cp : Bool} {xs ys : List (den e)} {v x : Value} (hb : BaseR w g st st1 e nz me cp xs v)
  {adx : Option Addr} {cx : Nat} (hx : x = .slice adx ys.length cx) (hE : Els w g e me adx ys) (hTu : ∃ te, P.underlying u = some (.slice te)) (hcp : cp = true → ys ≠ []) (hlim : xs.length + ys.length ≤ lim) :
  ∃ v' w' g', (Builtin.append_ #[t, u] ty #[v, x]).run P w = .ok v' w' ∧ Inv w0 mu (fun s => if s = d then .ow st.c (.sl e) (.own nz me) (xs ++ ys) else st1.get s) (fun s => if s = d then v' else Vals a s) (Nw U st.c) w' g' := by
 obtain ⟨hme, hdead, ad, cap, hv, hcap, hEx, hnz, hcpc, hadn, hown⟩ := hb
 obtain ⟨news, n1, n2, n3, n4⟩ := Els_news hE
 obtain ⟨olds, o1, o2, o3, o4⟩ := Els_news hEx
 have hnx : adx = none → ys.length = 0 := fun h => by subst h; have : ys = [] := hE; rw [this]; rfl
 have hsrc := src_of hTu (c := cx) n1 n2 hnx n3
 rw [← hx] at hsrc
 -- slot s0 is dead
 have hI1 : Inv w0 mu st1.get (Vals a) U w g := by
  rcases hdead with rfl | ⟨s0, h0, rfl⟩
  ·exact hI
  ·exact Inv_dead hI h0 Kept.refl (fun _ _ _ _ _ => rfl) (fun _ _ _ => rfl) (fun _ _ _ => rfl) hI.cols
 have hc1 : st1.c = st.c := by
  rcases hdead with rfl | ⟨s0, h0, rfl⟩
  ·rfl
  ·rfl
 have hel : ∀ i, i < (xs ++ ys).length → ∃ cs : Array Value, (∀ j, j < sz e → (olds ++ news)[i * sz e + j]? = cs[j]?) ∧ RR w g 0 e me [] (.val cs) 0 ((xs ++ ys).getD i (dflt e)) := by
  intro i hi
  rw [List.length_append] at hi
  rw [getD_app]
  by_cases h : i < xs.length
  ·rw [if_pos h]
   obtain ⟨cs, h1, h2⟩ := o4 i h
   refine ⟨cs, fun j hj => ?_, h2⟩
   have : (i + 1) * sz e ≤ xs.length * sz e := Nat.mul_le_mul_right _ (by omega)
   rw [Nat.add_mul, Nat.one_mul] at this
   rw [List.getElem?_append_left (by omega)]
   exact h1 j hj
  ·rw [if_neg h]
   obtain ⟨cs, h1, h2⟩ := n4 (i - xs.length) (by omega)
   refine ⟨cs, fun j hj => ?_, h2⟩
   have h3 : i * sz e = xs.length * sz e + (i - xs.length) * sz e := by rw [← Nat.add_mul]; congr 1; omega
   rw [List.getElem?_append_right (by omega), ← h1 j hj]
   congr 1; omega
 by_cases hroom : xs.length + ys.length ≤ cap
 ·cases ad with
  | none =>
   have hxs : xs = [] := hEx
   have hys : ys = [] := by
    rcases hadn rfl with h | h
    ·rw [h] at hroom; exact List.eq_nil_of_length_eq_zero (by omega)
    ·have := hcpc h; exact List.eq_nil_of_length_eq_zero (by omega)
   subst hxs
   subst hys
   have hnil : news = [] := by simpa using n1
   subst hnil
   have hc0 : cap = 0 := by
    rcases hadn rfl with h | h
    ·exact h
    ·exact absurd rfl (hcp h)
   subst hc0
   refine ⟨_, w, g.nil d [], by rw [hv]; exact append_nil_run hTt hsrc, ?_⟩
   have := (loose_nil hI1 d [] e (.own nz me)).put (hc1 ▸ hU) hI1 hd
   rw [show Nw U st1.c = Nw U st.c from by rw [hc1]] at this
   rw [hc1] at this
   exact this
  | some ad =>
   rcases hown _ rfl with h | ⟨s0, p, hs0, hst1, hsp, hcol, c, el, hheap, hsize⟩
   ·have := hcpc h
    have h2 := hcp h
    have : ys.length ≠ 0 := fun h3 => h2 (List.eq_nil_of_length_eq_zero h3)
    omega
   ·obtain ⟨B, O, sp⟩ := ad
    simp only at hsp; subst hsp
    simp only at hcol hheap hsize
    have hle : (xs.length + ys.length) * sz e ≤ cap * sz e := Nat.mul_le_mul_right _ hroom
    rw [Nat.add_mul] at hle
    have hO : O + xs.length * sz e + news.length ≤ c.size := by omega
    obtain ⟨hW, hcells⟩ := written_setRow (w := w) (B := B) (O := O + xs.length * sz e) (cur := c) (el := el) (vs := news) hheap hO
    have hrun := append_room_run (ty := ty) hTt hsrc hroom hheap hsize
    have hFr : Fr w0 mu (w.setRow B (c.toList.take (O + xs.length * sz e) ++ news ++ c.toList.drop (O + xs.length * sz e + news.length)).toArray) := Fr_setRow hI.fr (by
     obtain ⟨_, h⟩ := hI.cols B _ hcol
     rcases h with h | h
     ·exact absurd (congrArg Prod.fst h) hs0
     ·exact h)
    generalize w.setRow B (c.toList.take (O + xs.length * sz e) ++ news ++ c.toList.drop (O + xs.length * sz e + news.length)).toArray = w' at hW hcells hrun hFr
    refine ⟨_, w', g.rowAt s0 d B O (sz e) (.slice (some ⟨B, O, none⟩) (xs.length + ys.length) cap), by rw [hv]; exact hrun, ?_⟩
    have := Inv_room (xs := xs ++ ys) (nz := nz) (cap := cap) (O := O) hI hU hs0 hd hcol hme hW hFr (by rw [List.length_append]; exact hroom) hheap hsize (fun hz hx => ?_) (fun i hi => ?_)
    ·rw [List.length_append] at this
     refine Inv_congr this (fun s => ?_) (fun _ => rfl)
     rw [hst1, get_set]
    ·rw [List.append_eq_nil_iff] at hx
     have := hnz hz hx.1
     cases this
    ·obtain ⟨cs, h1, h2⟩ := hel i hi
     refine ⟨cs, fun j hj => ?_, h2⟩
     rw [← h1 j hj]
     by_cases h : i < xs.length
     ·have h3 : (i + 1) * sz e ≤ xs.length * sz e := Nat.mul_le_mul_right _ (by omega)
      rw [Nat.add_mul, Nat.one_mul] at h3
      rw [hW.out _ (.inl (by omega)), List.getElem?_append_left (by omega)]
      have hlt : i * sz e + j < olds.length := by omega
      have := o3 _ rfl (i * sz e + j) olds[i * sz e + j] (by simp [hlt])
      rw [addr_add] at this
      rw [show O + i * sz e + j = O + (i * sz e + j) by omega, this]
      simp [hlt]
     ·rw [List.length_append] at hi
      have h3 : i * sz e = xs.length * sz e + (i - xs.length) * sz e := by rw [← Nat.add_mul]; congr 1; omega
      have h4 : (i - xs.length + 1) * sz e ≤ ys.length * sz e := Nat.mul_le_mul_right _ (by omega)
      rw [Nat.add_mul, Nat.one_mul] at h4
      rw [List.getElem?_append_right (by omega), show O + i * sz e + j = O + xs.length * sz e + (i * sz e + j - olds.length) by omega]
      exact hcells _ (by omega)
 ·obtain ⟨te, C, c', hrun, hc', hC, hCe⟩ := append_grow_run (ty := ty) (olds := olds) hTt hsrc (by omega : cap < xs.length + ys.length) hlim o1 o2 (fun h => by subst h; have : xs = [] := hEx; rw [this]; rfl) o3
  refine ⟨_, _, g.row d w.heap.size (sz e) (.slice (some ⟨w.heap.size, 0, none⟩) (xs.length + ys.length) c'), by rw [hv]; exact hrun, ?_⟩
  have := Inv_row (c := st.c) (w' := w.drew.alloc (.cells C te)) hI1 d d hd hU (C := C) (el := te) rfl (Fr_alloc (Fr_drew hI.fr) _) (e := e) (nz := nz) (me := me) (xs := xs ++ ys) (cap := c') (by rw [List.length_append]; exact hc') hC (fun _ hx => ?_) (fun i hi => ?_)
  ·rw [List.length_append] at this
   refine Inv_congr this (fun s => ?_) (fun _ => rfl)
   by_cases hs : s = d <;> simp [hs]
  ·rw [List.append_eq_nil_iff] at hx
   obtain ⟨rfl, rfl⟩ := hx
   simp at hroom
  ·obtain ⟨cs, h1, h2⟩ := hel i hi
   refine ⟨cs, fun j hj => ?_, .inl ⟨hme, h2⟩⟩
   rw [← h1 j hj]
   refine hCe _ ?_
   rw [List.length_append] at hi ⊢
   have h3 : (i + 1) * sz e ≤ (xs.length + ys.length) * sz e := Nat.mul_le_mul_right _ (by omega)
   rw [Nat.add_mul, Nat.one_mul, Nat.add_mul] at h3
   omega

theorem updF_self {m : Md} {n : Nat} : ∀ (t : Ty) (k : Nat) (x : den t) (tv : TV), fieldK m n t x k = some tv → updF n (fun _ y => some y) t x k = some x := by
 intro t
 induction t with
 | pair a b _ ihb =>
  intro k x tv h
  simp only [fieldK, updF] at h ⊢
  cases hk : Nat.beq k n with
  | true => rfl
  | false =>
   rw [hk] at h
   rw [ihb _ _ _ h]
 | _ => intro k x tv h; simp [fieldK] at h

/-- a row's room may be written -/
theorem RR_spare {w' : World} {s B O N : Nat} {tg : List Stp} (hW : Written w w' B O N) (hsh : ∀ b l0, b < w.heap.size → shared g.col l0 b → b ≠ B) (hcB : g.col B = some (s, tg)) {e0 : Ty} {m0 : Md} {x0 : List (den e0)} {ad : Addr} {cap0 : Nat}
  (hH : g.H s tg = .slice (some ad) x0.length cap0) (hadB : ad.block = B) (hO : ad.off + x0.length * sz e0 ≤ O) :
  ∀ (q : List Stp) (t : Ty) (m : Md) (p : List Stp) (src : Src) (k : Nat) (x : den t), RR w g s t m p src k x → (isCell t = false → k = 0) → okP q t m x → walkP q t m x = some ⟨.sl e0, m0, x0⟩ → p ++ q = tg → SrcOK g s p src → m0.isOwn = true → RR w' g s t m p src k x := by
 have hsh' : ∀ b l0, b < w.heap.size → shared g.col l0 b → w'.heap[b]? = w.heap[b]? ∧ shared g.col l0 b := fun b l0 h1 h2 => ⟨hW.other b (hsh b l0 h1 h2), h2⟩
 intro q
 induction q with
 | nil =>
  intro t m p src k x h hk _ hw hpq hsrc hm
  simp only [walkP, Option.some.injEq, TV.mk.injEq] at hw
  obtain ⟨rfl, rfl, hx⟩ := hw
  have hx := eq_of_heq hx
  subst hx
  simp only [List.append_nil] at hpq
  subst hpq
  have hhead : rdS w' src k = rdS w src k := by
   cases src with
   | val cs => rfl
   | mem b off =>
    obtain ⟨cb, hcb, hlen⟩ := hsrc b off rfl
    refine cell?_congr (hW.other b fun hb => ?_)
    subst hb
    rw [hcB] at hcb
    simp only [Option.some.injEq, Prod.mk.injEq, true_and] at hcb
    subst hcb; omega
  simp only [RR, hm] at h ⊢
  obtain ⟨a', cap, h1, h2, h3, h4, h5⟩ := h
  rw [hH] at h2
  simp only [Value.slice.injEq] at h2
  obtain ⟨rfl, _, rfl⟩ := h2
  obtain ⟨h6, h7, ⟨c, el, h8, h8'⟩, h9⟩ := h5
  obtain ⟨c', h10, h11⟩ := hW.obj c el _ (by rw [← hadB]; exact h8)
  refine ⟨some ad, cap0, by rw [hhead]; exact h1, hH, h3, h4, h6, h7, ⟨c', el, by rw [hadB]; exact h10, by omega⟩, fun i hi => ⟨(h9 i hi).1, ?_⟩⟩
  refine RR_frame (Nat.le_of_eq hW.size.symm) hsh' e0 _ _ _ 0 _ (h9 i hi).2 (fun b r hb => ⟨hW.other b ?_, rfl⟩) (fun _ => rfl) (fun _ _ => rfl) (fun j hj => ?_)
  ·rintro rfl
   rw [hcB] at hb
   simp at hb
  ·simp only [rdS, Nat.zero_add]
   rw [hadB]
   refine hW.out _ (.inl ?_)
   have := Nat.mul_le_mul_right (sz e0) hi
   rw [Nat.succ_mul] at this
   omega
 | cons c q ih =>
  intro t m p src k x h hk hok hw hpq hsrc hm
  have hpt : p ≠ tg := fun h => by rw [← hpq] at h; simp at h
  have hpl : p.length < tg.length := by rw [← hpq]; simp
  have hsb : ∀ b off, src = .mem b off → b ≠ B := fun b off hb hbB => by
   obtain ⟨cb, hcb, hlen⟩ := hsrc b off hb
   rw [hbB, hcB] at hcb
   simp only [Option.some.injEq, Prod.mk.injEq, true_and] at hcb
   subst hcb; omega
  have hcell : ∀ j, rdS w' src j = rdS w src j := fun j => by
   cases src with
   | val cs => rfl
   | mem b off => exact cell?_congr (hW.other b (hsb b off rfl))
  cases c with
  | dr => simp [okP] at hok
  | fld nf =>
   simp only [okP, walkP] at hok hw
   obtain ⟨tv', hf, hok⟩ := hok
   rw [hf] at hw
   have hk0 : k = 0 := by
    cases t <;> first | exact hk rfl | (simp [fieldOf, fieldK] at hf)
   subst hk0
   obtain ⟨h1, h2, h3, h4, _, h5⟩ := RR_field _ _ _ _ _ _ h hf
   refine RR_updF (w := w) (g := g) (m := m) (m2 := m) (n := nf) (f := fun _ y => some y) (tv := tv') ?_ (fun _ => rfl) ?_ t 0 x x h hf (updF_self t 0 x tv' hf)
   ·intro ta j z hj hca hr
    refine RR_frame (Nat.le_of_eq hW.size.symm) hsh' ta _ _ _ _ z hr (fun b r hb => ⟨hW.other b ?_, rfl⟩) (fun _ => rfl) (fun _ _ => rfl) (fun i _ => hcell _)
    rintro rfl
    rw [hcB, ← hpq] at hb
    simp only [Option.some.injEq, Prod.mk.injEq, true_and, List.append_assoc, List.append_cancel_left_eq, List.cons_append, List.nil_append, List.cons.injEq, Stp.fld.injEq] at hb
    exact hj hb.1.symm
   ·intro y hy
    simp only [Option.some.injEq] at hy
    subst hy
    rw [← h3]
    exact ih tv'.t tv'.m _ _ nf tv'.x h1 (fun hc => by rw [h2] at hc; cases hc) hok hw (by rw [← hpq]; simp) (fun b off hb => by
     obtain ⟨cb, hcb, hlen⟩ := hsrc b off hb
     exact ⟨cb, hcb, by simp; omega⟩) hm
  | el i =>
   cases t with
   | sl e =>
    simp only [okP, walkP] at hok hw
    obtain ⟨hmo, hi, hok⟩ := hok
    simp only [RR, hmo] at h ⊢
    obtain ⟨a', cap, h1, h2, h3, h4, h5⟩ := h
    refine ⟨a', cap, by rw [hcell]; exact h1, h2, h3, h4, ?_⟩
    cases a' with
    | none => exact h5
    | some ad' =>
     obtain ⟨h6, h7, ⟨c, el, h8, h8'⟩, h9⟩ := h5
     have hne : ad'.block ≠ B := fun hb => by
      rw [hb, hcB] at h7
      simp only [Option.some.injEq, Prod.mk.injEq, true_and] at h7
      exact hpt h7.symm
     refine ⟨h6, h7, ⟨c, el, by rw [hW.other _ hne]; exact h8, h8'⟩, fun j hj => ⟨(h9 j hj).1, ?_⟩⟩
     by_cases hji : j = i
     ·subst hji
      exact ih e m.el _ _ 0 _ (h9 j hj).2 (fun _ => rfl) hok hw (by rw [← hpq]; simp) (fun b off hb => by
       cases hb
       exact ⟨p, h7, by simp⟩) hm
     ·refine RR_frame (Nat.le_of_eq hW.size.symm) hsh' e _ _ _ 0 _ (h9 j hj).2 (fun b r hb => ⟨hW.other b ?_, rfl⟩) (fun _ => rfl) (fun _ _ => rfl) (fun o _ => ?_)
      ·rintro rfl
       rw [hcB, ← hpq] at hb
       simp only [Option.some.injEq, Prod.mk.injEq, true_and, List.append_assoc, List.append_cancel_left_eq, List.cons_append, List.nil_append, List.cons.injEq, Stp.el.injEq] at hb
       exact hji hb.1.symm
      ·simp only [rdS]
       exact cell?_congr (hW.other _ hne)
   | _ => simp [okP] at hok

/-- an append to a part that an owner has -/
theorem app_core (hI : Inv w0 mu st.get (Vals a) U w g) (hU : New U st.c) {d : Nat} (hd : ¬ mu.far d) {s n : Nat} {p : List Stp} {o' : Own} (ho' : own? (st.get s) n = some o') (hnU : U n) (hok : o'.ok p) {e : Ty} {nz : Bool} {me : Md} {xs ys : List (den e)}
  (hat : o'.at p = some ⟨.sl e, .own nz me, xs⟩) (hme : me.hasOwn = false) (hna : noApp st s = true) (hys : ys ≠ []) {t u ty : TypeId} (hTt : TM P (.sl e) t) {x : Value}
  {adx : Option Addr} {cx : Nat} (hx : x = .slice adx ys.length cx) (hE : Els w g e me adx ys) (hTu : ∃ te, P.underlying u = some (.slice te)) (hlim : xs.length + ys.length ≤ lim) :
  ∃ v' w' g', (Builtin.append_ #[t, u] ty #[g.H s p, x]).run P w = .ok v' w' ∧ Inv w0 mu (fun q => if q = d then .app s n p e nz me (xs ++ ys) else st.get q) (fun q => if q = d then v' else Vals a q) (Nw U st.c) w' g' := by
 obtain ⟨ad, cap, hH, hnode⟩ := alias_node hI ho' hok hat rfl
 obtain ⟨hEx, hcap, hnz, hadn⟩ := Els_own hnode hme Kept.refl hH
 obtain ⟨news, n1, n2, n3, n4⟩ := Els_news hE
 obtain ⟨olds, o1, o2, o3, o4⟩ := Els_news hEx
 have hnx : adx = none → ys.length = 0 := fun h => by subst h; have : ys = [] := hE; rw [this]; rfl
 have hsrc := src_of hTu (c := cx) n1 n2 hnx n3
 rw [← hx] at hsrc
 have hyl : 0 < ys.length := List.length_pos_iff.2 hys
 have hel : ∀ i, i < (xs ++ ys).length → ∃ cs : Array Value, (∀ j, j < sz e → (olds ++ news)[i * sz e + j]? = cs[j]?) ∧ RR w g 0 e me [] (.val cs) 0 ((xs ++ ys).getD i (dflt e)) := by
  intro i hi
  rw [List.length_append] at hi
  rw [getD_app]
  by_cases h : i < xs.length
  ·rw [if_pos h]
   obtain ⟨cs, h1, h2⟩ := o4 i h
   refine ⟨cs, fun j hj => ?_, h2⟩
   have : (i + 1) * sz e ≤ xs.length * sz e := Nat.mul_le_mul_right _ (by omega)
   rw [Nat.add_mul, Nat.one_mul] at this
   rw [List.getElem?_append_left (by omega)]
   exact h1 j hj
  ·rw [if_neg h]
   obtain ⟨cs, h1, h2⟩ := n4 (i - xs.length) (by omega)
   refine ⟨cs, fun j hj => ?_, h2⟩
   have h3 : i * sz e = xs.length * sz e + (i - xs.length) * sz e := by rw [← Nat.add_mul]; congr 1; omega
   rw [List.getElem?_append_right (by omega), ← h1 j hj]
   congr 1; omega
 have hsl := own_ne_lent hI ho'
 by_cases hroom : xs.length + ys.length ≤ cap
 ·cases ad with
  | none => have : cap = 0 := hadn; omega
  | some ad =>
   obtain ⟨hsp, hcol, c, el, hheap, hsize⟩ := hadn
   obtain ⟨B, O, sp⟩ := ad
   simp only at hsp; subst hsp
   simp only at hcol hheap hsize
   have hle : (xs.length + ys.length) * sz e ≤ cap * sz e := Nat.mul_le_mul_right _ hroom
   rw [Nat.add_mul] at hle
   have hO : O + xs.length * sz e + news.length ≤ c.size := by omega
   obtain ⟨hW, hcells⟩ := written_setRow (w := w) (B := B) (O := O + xs.length * sz e) (cur := c) (el := el) (vs := news) hheap hO
   have hrun := append_room_run (ty := ty) hTt hsrc hroom hheap hsize
   have hFr : Fr w0 mu (w.setRow B (c.toList.take (O + xs.length * sz e) ++ news ++ c.toList.drop (O + xs.length * sz e + news.length)).toArray) := Fr_setRow hI.fr (by
    obtain ⟨_, h⟩ := hI.cols B _ hcol
    rcases h with h | h
    ·exact absurd (congrArg Prod.fst h) hsl
    ·exact h)
   generalize w.setRow B (c.toList.take (O + xs.length * sz e) ++ news ++ c.toList.drop (O + xs.length * sz e + news.length)).toArray = w' at hW hcells hrun hFr
   have hshB : ∀ b l0, b < w.heap.size → shared g.col l0 b → b ≠ B := fun b l0 _ hs => shared_ne hcol hsl hs
   have hsh : ∀ b l0, b < w.heap.size → shared g.col l0 b → w'.heap[b]? = w.heap[b]? ∧ shared g.col l0 b := fun b l0 h1 h2 => ⟨hW.other b (hshB b l0 h1 h2), h2⟩
   refine ⟨_, w', g, by rw [hH]; exact hrun, ?_⟩
   have hown : ∀ q, (q = d ∨ q = s) → ∀ n', own? (if q = d then AV.app s n p e nz me (xs ++ ys) else st.get q) n' = if q = d then none else own? (st.get q) n' := fun q _ n' => by
    by_cases hq : q = d
    ·simp [hq, own?]
    ·simp [hq]
   have hslot : SlotR w' g (fun q => if q = d then AV.app s n p e nz me (xs ++ ys) else st.get q) s (st.get s) (Vals a s) := by
    have hs := hI.slots s
    rcases own?_ow ho' with ⟨hb, hq⟩ | ⟨hb, n1, hq⟩
    ·rw [hq] at hs ⊢
     obtain ⟨h1, h2⟩ := hs
     obtain ⟨ob, ot, om, ox⟩ := o'
     simp only at hb; subst hb
     have hatw : walkP p ot om ox = some ⟨.sl e, .own nz me, xs⟩ := by
      cases p with
      | nil => exact hat
      | cons c p => cases c <;> first | exact hat | (simp [Own.at] at hat)
     have hokw : okP p ot om ox := by
      cases p with
      | nil => trivial
      | cons c p => cases c <;> simpa [Own.ok] using hok
     exact ⟨h1, RR_spare hW hshB hcol hH rfl (by simp) p ot om [] _ 0 ox h2 (fun _ => rfl) hokw hatw rfl (fun _ _ h => by cases h) rfl⟩
    ·rw [hq] at hs ⊢
     obtain ⟨b, cc, el', h1, h2, h3, h4, h5, h6⟩ := hs
     obtain ⟨ob, ot, om, ox⟩ := o'
     simp only at hb h4 h6; subst hb
     cases p with
     | nil => simp [Own.ok] at hok
     | cons c' q =>
      cases c' with
      | fld _ => simp [Own.ok] at hok
      | el _ => simp [Own.ok] at hok
      | dr =>
       have hbB : b ≠ B := fun h => by
        rw [h, hcol] at h2
        simp at h2
       exact ⟨b, cc, el', h1, h2, by rw [hW.other b hbB]; exact h3, h4, h5, RR_spare hW hshB hcol hH rfl (by simp) q ot om [.dr] (.mem b 0) 0 ox h6 (fun _ => rfl) hok hat rfl (fun b' off hb' => by cases hb'; exact ⟨[], h2, by simp⟩) rfl⟩
   refine Inv_updG hI (fun q => q = d ∨ q = s) (fun _ => Nw_old) (Nat.le_of_eq hW.size.symm) hsh ?_ ?_ ?_ ?_ (fun b k hk => by rw [hW.size]; exact hI.cols b k hk) hFr ?_ (fun _ h => h) (fun q hq => if h : q = d then .inl (fun n' _ => by simp [h, own?]) else .inr (by rw [hq.resolve_left h]; exact noApp_get hna))
   ·intro q hq
    have hq1 : q ≠ d := fun h => hq (.inl h)
    have hq2 : q ≠ s := fun h => hq (.inr h)
    refine ⟨by simp [hq1], by simp [hq1], fun b r hb => ⟨hW.other b ?_, rfl⟩, fun _ => rfl, fun _ => rfl⟩
    rintro rfl
    rw [hcol] at hb
    simp only [Option.some.injEq, Prod.mk.injEq] at hb
    exact hq2 hb.1.symm
   ·intro q hq n' _ o'' ho''
    rw [hown q hq] at ho''
    by_cases hqd : q = d
    ·rw [if_pos hqd] at ho''; cases ho''
    ·rw [if_neg hqd] at ho''
     exact ⟨o'', ho'', fun p' hp' => ⟨hp', rfl, fun e' m' x' hx' => ⟨m', x', hx', rfl⟩⟩⟩
   ·intro q hq n' p' _ o'' ho''
    by_cases hqd : q = d
    ·simp [hqd, ownP?] at ho''
    ·simp only [hqd, if_false] at ho''
     exact ⟨o'', ho'', fun h1 h2 => ⟨h1, h2, rfl⟩⟩
   ·intro q hq
    by_cases hqd : q = d
    ·subst hqd
     simp only [if_true]
     refine ⟨?_, Nw_old hnU⟩
     intro o2 ho2
     have hsq : s ≠ q := fun h => by subst h; simp [own?] at ho2
     simp only [hsq, if_false] at ho2
     rw [ho'] at ho2
     obtain rfl := Option.some.inj ho2
     refine ⟨hok, hme, xs, hat, .inr ⟨⟨B, O, none⟩, cap, rfl, hH, hcol, by rw [List.length_append], by rw [List.length_append]; exact hroom, by simp [hys], ?_, fun i hi => ?_⟩⟩
     ·obtain ⟨c2, h3, h4⟩ := hW.obj _ _ _ hheap
      exact ⟨c2, el, h3, by simpa [h4] using hsize⟩
     ·obtain ⟨cs, h1, h2⟩ := hel i hi
      refine ⟨cs, fun j hj => ?_, RR_free (Nat.le_of_eq hW.size.symm) hsh e me [] [] _ _ 0 0 _ h2 hme (fun _ => rfl) (fun _ _ => rfl)⟩
      rw [← h1 j hj]
      by_cases h : i < xs.length
      ·have h3 : (i + 1) * sz e ≤ xs.length * sz e := Nat.mul_le_mul_right _ (by omega)
       rw [Nat.add_mul, Nat.one_mul] at h3
       rw [hW.out _ (.inl (by show O + i * sz e + j < _; omega)), List.getElem?_append_left (by omega)]
       have hlt : i * sz e + j < olds.length := by omega
       have := o3 _ rfl (i * sz e + j) olds[i * sz e + j] (by simp [hlt])
       rw [addr_add] at this
       rw [show O + i * sz e + j = O + (i * sz e + j) by omega, this]
       simp [hlt]
      ·rw [List.length_append] at hi
       have h3 : i * sz e = xs.length * sz e + (i - xs.length) * sz e := by rw [← Nat.add_mul]; congr 1; omega
       have h4 : (i - xs.length + 1) * sz e ≤ ys.length * sz e := Nat.mul_le_mul_right _ (by omega)
       rw [Nat.add_mul, Nat.one_mul] at h4
       rw [List.getElem?_append_right (by omega)]
       show w'.cell? ⟨B, O + i * sz e + j, none⟩ = _
       rw [show O + i * sz e + j = O + xs.length * sz e + (i * sz e + j - olds.length) by omega]
       exact hcells _ (by omega)
    ·have hqs := hq.resolve_left hqd
     subst hqs
     simp only [hqd, if_false]
     refine ⟨hslot, ?_⟩
     exact stampOK_mono (fun _ => Nw_old) (hI.stamps q)
   ·intro q hq
    by_cases hqd : q = d
    ·subst hqd; exact absurd hq hd
    ·simp only [hqd, if_false]; exact hI.far q hq
 ·obtain ⟨te, C, c', hrun, hc', hC, hCe⟩ := append_grow_run (ty := ty) (olds := olds) hTt hsrc (by omega : cap < xs.length + ys.length) hlim o1 o2 (fun h => by subst h; have : xs = [] := hEx; rw [this]; rfl) o3
  refine ⟨_, _, g.row d w.heap.size (sz e) (.slice (some ⟨w.heap.size, 0, none⟩) (xs.length + ys.length) c'), by rw [hH]; exact hrun, ?_⟩
  have hrow := Inv_row (c := st.c) (w' := w.drew.alloc (.cells C te)) hI d d hd hU (C := C) (el := te) rfl (Fr_alloc (Fr_drew hI.fr) _) (e := e) (nz := nz) (me := me) (xs := xs ++ ys) (cap := c') (by rw [List.length_append]; exact hc') hC (fun _ hx => ?_) (fun i hi => ?_)
  ·rw [List.length_append] at hrow
   refine Inv_upd hrow (fun q => q = d) (fun _ h => h) (Nat.le_refl _) (fun b l0 _ hb => ⟨rfl, hb⟩) ?_ ?_ ?_ ?_ hrow.cols hrow.fr ?_ (fun _ h => h) (.inl fun q hq n' _ => by subst hq; simp [own?])
   ·intro q hq
    exact ⟨by simp [hq], rfl, fun _ _ _ => ⟨rfl, rfl⟩, fun _ => rfl, fun _ => rfl⟩
   ·intro q hq n' _ o'' ho''
    subst hq; simp [own?] at ho''
   ·intro q hq n' p' _ o'' ho''
    subst hq; simp [ownP?] at ho''
   ·intro q hq
    subst hq
    simp only [if_true]
    refine ⟨?_, Nw_old hnU⟩
    intro o2 ho2
    have hsq : s ≠ q := fun h => by subst h; simp [own?] at ho2
    simp only [hsq, if_false] at ho2
    rw [ho'] at ho2
    obtain rfl := Option.some.inj ho2
    have h1 := hrow.slots q
    simp only [if_true] at h1
    exact ⟨hok, hme, xs, hat, .inl ⟨rfl, h1.2⟩⟩
   ·intro q hq
    have := hrow.far q hq
    by_cases hqd : q = d
    ·subst hqd; exact absurd hq hd
    ·simpa [hqd] using this
  ·rw [List.append_eq_nil_iff] at hx
   exact absurd hx.2 hys
  ·obtain ⟨cs, h1, h2⟩ := hel i hi
   refine ⟨cs, fun j hj => ?_, .inl ⟨hme, h2⟩⟩
   rw [← h1 j hj]
   refine hCe _ ?_
   rw [List.length_append] at hi ⊢
   have h3 : (i + 1) * sz e ≤ (xs.length + ys.length) * sz e := Nat.mul_le_mul_right _ (by omega)
   rw [Nat.add_mul, Nat.one_mul, Nat.add_mul] at h3
   omega

theorem step_append (hT : TabOK P T) (hU : New U st.c) (hI : Inv w0 mu st.get (Vals a) U w g) (hd : DstOK mu o a) {c : Call} (ho : o.op = .call c) (hc : c.callee = .builtin .append) (h : step T Φ o st K = some r) : StepOK P w0 mu (Nw U st.c) o a w K r := by
 unfold step at h; rw [ho] at h; simp only [hc] at h
 split at h
 ·rename_i x y t u hargs htys
  split at h
  ·rename_i ty eu hty huty
   obtain ⟨ax, h1, hvx, hsx, _⟩ := opd_sound hI h
   obtain ⟨ay, h2, hvy, hsy, _⟩ := opd_sound hI h1
   clear h h1
   obtain ⟨cs, he⟩ := exec_builtin (ρ := a.eval) ho hc
   have hexec : execOp a.eval o = (do pure (.value (← Builtin.append_ c.argTypes o.type (c.args.map a.eval)))) := by rw [he]; rfl
   rw [toList_two hargs, toList_two htys] at hexec
   simp only [List.map_toArray, List.map_cons, List.map_nil] at hexec
   have hTu : ∃ te, P.underlying u = some (.slice te) := by
    obtain ⟨te, h3, _⟩ := ((hT _).1 _ huty).1
    exact ⟨te, h3⟩
   unfold appendD at h2
   split at h2
   ·rename_i e
    split at h2
    ·rename_i hf
     obtain ⟨e', m, ys, adx, cx, h3, hx, _, hE⟩ := asList_els hI h2 hvy
     clear h2
     split at h3
     ·rename_i he'; subst he'
      split at h3
      ·rename_i s n p hpart
       have hal : ax = .al s n p := by
        unfold partOf at hpart
        split at hpart
        ·simp only [Option.some.injEq, Prod.mk.injEq] at hpart
         obtain ⟨rfl, rfl, rfl⟩ := hpart; rfl
        ·cases hpart
       subst hal
       unfold appD at h3
       split at h3
       ·rename_i o' ho'
        obtain ⟨e2, m2, xs, hat, hm2, h4⟩ := Own.sl_some h3
        split at h4
        ·rename_i nz me
         split at h4
         ·rename_i hme
          split at h4
          ·rename_i he2; subst he2
           obtain ⟨hna, h4'⟩ := guardK_some h4
           obtain ⟨hg, h5⟩ := guardB_some h4'
           simp only [Bool.and_eq_true, Bool.not_eq_true'] at hg
           obtain ⟨d, hdst, hK⟩ := ownK_some h5
           obtain ⟨hd1, hd2⟩ := hd d hdst
           obtain ⟨hvH, hok⟩ := hvx o' ho'
           obtain ⟨v', w', g', hrun, hI'⟩ := app_core (ty := o.type) hI hU hd2 ho' hsx hok hat hme hna (fun h => by rw [h] at hg; simp at hg) ((hT _).1 _ hty).1 hx (hE me hf) hTu (Nat.le_of_ble_eq_true hg.2)
           rw [← hvH] at hrun
           exact ⟨_, _, hK, fun next Q hn => M_done hdst hd1 (exec_v hexec hrun) hI' hn⟩
          ·cases h4
         ·cases h4
        ·cases h4
       ·cases h3
      obtain ⟨nz, me, cp, xs, st1, h4, hb⟩ := baseD_sound hI h3 hvx
      obtain ⟨hg, h5⟩ := guardB_some h4
      simp only [Bool.and_eq_true] at hg
      obtain ⟨d, hdst, hK⟩ := ownK_some h5
      obtain ⟨hd1, hd2⟩ := hd d hdst
      obtain ⟨v', w', g', hrun, hI'⟩ := append_core (ty := o.type) hI hU hd2 ((hT _).1 _ hty).1 hb hx (hE me hf) hTu (fun hcp hys => by rw [hcp, hys] at hg; simp [bimp] at hg) (Nat.le_of_ble_eq_true hg.2)
      have hc1 : st1.c = st.c := by rcases hb.dead with rfl | ⟨s0, h0, rfl⟩ <;> rfl
      rw [hc1] at hK
      exact ⟨_, _, hK, fun next Q hn => M_done hdst hd1 (exec_v hexec hrun) hI' hn⟩
     ·cases h3
    ·obtain ⟨ys, st0, g1, h3, hc0, hI1, hvy1, hk1, hkeep⟩ := take_roK h2 rfl hI hvy
     clear h2
     have hvx1 := hkeep _ _ hsx hvx
     obtain ⟨nz, me, cp, xs, st1, h4, hb⟩ := baseD_sound hI1 h3 hvx1
     obtain ⟨hg, h5⟩ := guardB_some h4
     simp only [Bool.and_eq_true] at hg
     obtain ⟨d, hdst, hK⟩ := ownK_some h5
     obtain ⟨hd1, hd2⟩ := hd d hdst
     have hys : ∃ adx cx, a.eval y = .slice adx ys.length cx ∧ Els w g1 e (.bor false false) adx ys := by
      have hal : asList st0 (.v (.sl e) (.bor false false) ys) (fun (e : Ty) (_ : Md) (xs : List (den e)) => some (⟨e, xs⟩ : (e : Ty) × List (den e))) = some ⟨e, ys⟩ := rfl
      obtain ⟨hm, hs, hr⟩ := hvy1
      simp only [RR, Md.isOwn, RO] at hr
      obtain ⟨⟨ad, cap, h1, h2, h3⟩, _⟩ := hr
      rw [shape_cell rfl hs] at h1
      simp only [rdS] at h1
      refine ⟨ad, cap, by simpa using h1, ?_⟩
      cases ad with
      | none => exact h3.1
      | some ad =>
       refine ⟨h3.imp (fun h => List.eq_nil_of_length_eq_zero (by omega)) (·.1), fun i hi => ?_⟩
       have h3 := h3.resolve_left (by intro h; omega)
       have h6 := h3.2.2.2 i hi
       obtain ⟨cs, h7, h8, _⟩ := RO_cells e _ 0 _ h6
       have h9 : ∀ j, j < sz e → cs.toArray[j]? = w.cell? ⟨ad.block, ad.off + i * sz e + j, none⟩ := fun j hj => by
        have hj' : j < cs.length := by omega
        have := h8 j cs[j] (by simp [hj'])
        rw [Nat.zero_add] at this
        rw [this]; simp [hj']
       exact ⟨cs.toArray, fun j hj => (h9 j hj).symm, RO_RR (g := g1) (s := 0) e [] _ cs.toArray 0 _ h6 fun j hj => by rw [Nat.zero_add]; exact h9 j hj⟩
     obtain ⟨adx, cx, hx, hE⟩ := hys
     have hE' : Els w g1 e me adx ys := by
      cases adx with
      | none => exact hE
      | some ad =>
       refine ⟨hE.1, fun i hi => ?_⟩
       obtain ⟨cs, h6, h7⟩ := hE.2 i hi
       exact ⟨cs, h6, RR_weak' e _ me _ _ _ _ h7 hg.1.2 rfl⟩
     have hUc : New U st0.c := by rw [hc0]; exact hU
     obtain ⟨v', w', g', hrun, hI'⟩ := append_core (ty := o.type) hI1 hUc hd2 ((hT _).1 _ hty).1 hb hx hE' hTu (fun hcp _ => by rw [hcp] at hg; simp at hg) (Nat.le_of_ble_eq_true hg.2)
     have hc1 : st1.c = st0.c := by rcases hb.dead with rfl | ⟨s0, h0, rfl⟩ <;> rfl
     rw [hc1] at hK
     rw [show Nw U st0.c = Nw U st.c from by rw [hc0]] at hI'
     exact ⟨_, _, hK, fun next Q hn => M_done hdst hd1 (exec_v hexec hrun) hI' hn⟩
   ·cases h2
  ·cases h
 ·cases h
end
end Go.Ab
