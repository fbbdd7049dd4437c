/- slices.Delete, of ints: its contract. -/
import Derived.Test.YtoglkjmdloppcaaAbFn
import Derived.Test.YtoglkjmdloppcaaChecked
import Derived.Shelf.RegionOpenPlain
import Derived.WalkKit
import Derived.Deep.LoopGhost
import Derived.Deep.RegionLaw
import Derived.Lib.Walk
import Derived.Lib.SliceRun
import Derived.KernelRfl
namespace Go.Proofs.Ytoglkjmdloppcaa.S
open Go Go.RowKit Go.Shelf Go.Ab

abbrev delF : Nat := 83
abbrev delT : Nat := 34
abbrev delE : Nat := 3
theorem del_fn : Try.prog.funcs[delF]? = some Try.f83 := Try.func83
theorem del_nt : Try.f83.ntmps = 33 := by kernel_rfl
theorem del_t : Try.prog.underlying delT = some (.slice delE) := by kernel_rfl
theorem del_k : Try.prog.underlying delE = some (.int .i64) := by kernel_rfl
theorem del_i : (Try.prog.info? delE).map (fun i => (i.zero, i.size, i.bytes)) = some (some (.int .i64 0), 1, 8) := by kernel_rfl
theorem del_mixed : Try.prog.follows .mixedOrders = true := by kernel_rfl

/-- the cells that are moved, and the world behind -/
def delNews (xs : List Int) (j : Nat) : List Value := (xs.drop j).map (Value.int .i64)
def delW (blk off : Nat) (xs : List Int) (i j : Nat) (w : World) : World :=
  (w.drew.setCells blk (off + i * 1) (delNews xs j)).setCells blk (off + (i + (xs.length - j))) (List.replicate (xs.length - (i + (xs.length - j))) (.int .i64 0))

/-- a row is written -/
theorem setCells_obj (b : Nat) : ∀ (vs : List Value) (o : Nat) (w : World), (w.setCells b o vs).heap.size = w.heap.size ∧ (w.setCells b o vs).os = w.os ∧ (w.setCells b o vs).tape = w.tape ∧ (w.setCells b o vs).output = w.output ∧
    (∀ b', b' ≠ b → (w.setCells b o vs).heap[b']? = w.heap[b']?) ∧ ∀ c el fr, w.heap[b]? = some (.cells c el fr) → ∃ c', (w.setCells b o vs).heap[b]? = some (.cells c' el fr) ∧ c'.size = c.size
  | [], o, w => ⟨rfl, rfl, rfl, rfl, fun _ _ => rfl, fun c el fr h => ⟨c, h, rfl⟩⟩
  | v :: r, o, w => by
    obtain ⟨h1, h2, h3, h4, h5, h6⟩ := setCells_obj b r (o + 1) (w.setCell ⟨b, o, none⟩ v)
    rw [World.setCells]
    refine ⟨by rw [h1]; simp [World.setCell], h2, h3, h4, fun b' hb => ?_, fun c el fr h => ?_⟩
    · rw [h5 b' hb]
      simp [World.setCell, Array.getElem?_modify, Ne.symm hb]
    · obtain ⟨c', h7, h8⟩ := h6 (c.setIfInBounds o v) el fr (by simp [World.setCell, Array.getElem?_modify, h])
      exact ⟨c', h7, by rw [h8]; simp⟩

set_option maxHeartbeats 4000000 in
set_option maxRecDepth 1000000 in
theorem del_nil (w : World) : Calls Try.prog delF #[.slice none 0 0, .int .i64 0, .int .i64 0] w fun e w' => e = .returned (.slice none 0 0) ∧ w' = w := by
  have t22 := del_t
  have t3 := del_k
  go_enter del_fn, del_nt
  go_wp2
  all_goals (go_ret; exact ⟨rfl, rfl⟩)

set_option maxHeartbeats 4000000 in
set_option maxRecDepth 1000000 in
theorem del_same (blk off cap n i : Nat) (w : World) (hn : n ≤ cap) (hm : n ≤ 9223372036854775807) (hi : i ≤ n) :
    Calls Try.prog delF #[.slice (some ⟨blk, off, none⟩) n cap, .int .i64 i, .int .i64 i] w fun e w' => e = .returned (.slice (some ⟨blk, off, none⟩) n cap) ∧ w' = w := by
  have t22 := del_t
  have t3 := del_k
  go_enter del_fn, del_nt
  go_wp2
  all_goals (go_ret; exact ⟨rfl, rfl⟩)

set_option maxHeartbeats 4000000 in
set_option maxRecDepth 1000000 in
theorem del_less (blk off cap i j : Nat) (xs : List Int) (w : World) (hH : ∀ t x, xs[t]? = some x → w.cell? ⟨blk, off + t, none⟩ = some (.int .i64 x) ∧ w.frozen? ⟨blk, off + t, none⟩ = false)
    (hn : xs.length ≤ cap) (hm : xs.length ≤ 9223372036854775807) (hij : i < j) (hj : j ≤ xs.length) :
    Calls Try.prog delF #[.slice (some ⟨blk, off, none⟩) xs.length cap, .int .i64 i, .int .i64 j] w fun e w' => e = .returned (.slice (some ⟨blk, off, none⟩) (i + (xs.length - j)) cap) ∧ w' = delW blk off xs i j w := by
  have t22 := del_t
  have t3 := del_k
  have mixed := del_mixed
  obtain ⟨i0, hi0, hz0, hz1, hz2⟩ := info_parts del_i
  have v3 : ∀ w, (zeroValue delE).run Try.prog w = .ok (.int .i64 0) w := fun w => by simp [zeroValue, typeInfo, hi0, hz0]
  obtain ⟨n, hxn⟩ : ∃ n, n = xs.length := ⟨_, rfl⟩
  obtain ⟨news, hnews⟩ : ∃ news, news = delNews xs j := ⟨_, rfl⟩
  have hlen : news.length = n - j := by rw [hnews, hxn]; simp [delNews]
  have hget : ∀ t u, news[t]? = some u → ∃ x, xs[j + t]? = some x ∧ u = .int .i64 x := by
    intro t u hu
    rw [hnews, delNews, List.getElem?_map, List.getElem?_drop] at hu
    cases hx : xs[j + t]? with
    | none => rw [hx] at hu; cases hu
    | some x => rw [hx] at hu; cases hu; exact ⟨x, rfl, rfl⟩
  obtain ⟨A, hA, hsrc⟩ : ∃ A : Addr, (if cap = j then some (⟨blk, off, none⟩ : Addr) else some ⟨blk, off + j, none⟩) = some A ∧ Hid (∀ t u, news[t]? = some u → w.drew.cell? (A.add t) = some u) := by
    by_cases h : cap = j
    · refine ⟨⟨blk, off, none⟩, by simp [h], fun t u hu => ?_⟩
      have := (List.getElem?_eq_some_iff.1 hu).1
      omega
    · refine ⟨⟨blk, off + j, none⟩, by simp [h], fun t u hu => ?_⟩
      obtain ⟨x, hx, rfl⟩ := hget t u hu
      rw [Addr.add_lit, Nat.add_assoc]
      exact (hH _ _ hx).1
  have s1 : Hid (news.length = (n - j) * 1) := by rw [Nat.mul_one]; exact hlen
  have s2 : Hid (∀ u ∈ news, u.oneCell' = true) := by
    intro u hu
    obtain ⟨t, ht⟩ := List.mem_iff_getElem?.1 hu
    obtain ⟨x, _, rfl⟩ := hget t u ht
    rfl
  have hold : ∀ t, t < n → (w.drew.cell? ⟨blk, off + t, none⟩).isSome = true ∧ w.drew.frozen? ⟨blk, off + t, none⟩ = false := by
    intro t ht
    obtain ⟨x, hx⟩ : ∃ x, xs[t]? = some x := ⟨_, List.getElem?_eq_getElem (by omega)⟩
    have := hH t x hx
    exact ⟨by show (w.cell? _).isSome = true; rw [this.1]; rfl, this.2⟩
  have s3 : Hid (∀ t, t < news.length → (w.drew.cell? ⟨blk, off + i * 1 + t, none⟩).isSome = true ∧ w.drew.frozen? ⟨blk, off + i * 1 + t, none⟩ = false) := by
    intro t ht
    rw [Nat.mul_one, Nat.add_assoc]
    exact hold _ (by omega)
  obtain ⟨W1, hW1⟩ : ∃ W1, W1 = w.drew.setCells blk (off + i * 1) news := ⟨_, rfl⟩
  have hold1 : ∀ t, t < n → (W1.cell? ⟨blk, off + t, none⟩).isSome = true ∧ W1.frozen? ⟨blk, off + t, none⟩ = false := by
    intro t ht
    rw [hW1]
    refine ⟨?_, by rw [World.frozen?_setCells]; exact (hold t ht).2⟩
    by_cases h : i ≤ t ∧ t < i + news.length
    · have := World.cell?_setCells_in blk news (off + i * 1) w.drew (fun k hk => (s3.out k hk).1) (t - i) (by omega)
      rw [show off + i * 1 + (t - i) = off + t by omega] at this
      rw [this]; rfl
    · rw [World.cell?_setCells_out blk news _ _ _ (fun _ _ => by show off + t < _ ∨ _ ≤ off + t; omega)]
      exact (hold t ht).1
  have hcl : ∀ ty, (Builtin.clear_ #[delT] ty #[.slice (some ⟨blk, off + (i + (n - j)), none⟩) (n - (i + (n - j))) (cap - (i + (n - j)))]).run Try.prog W1 = .ok (.tuple #[]) (W1.setCells blk (off + (i + (n - j))) (List.replicate (n - (i + (n - j))) (.int .i64 0))) :=
    fun ty => Lib.run_clear_slice W1 _ _ ty _ t22 v3 rfl rfl blk (off + (i + (n - j))) _ _ (by omega) (fun t ht => by rw [Nat.add_assoc]; exact (hold1 _ (by omega)).1) (fun t ht => by rw [Nat.add_assoc]; exact (hold1 _ (by omega)).2)
  have X : Aside (W1.setCells blk (off + (i + (n - j))) (List.replicate (n - (i + (n - j))) (.int .i64 0)) = delW blk off xs i j w) := by
    show _ = _
    rw [delW, ← hxn, ← hnews, ← hW1]
  have hW : Hid (W1 = w.drew.setCells blk (off + i * 1) news) := hW1
  have hic : i ≤ cap := by omega
  have hjc : j ≤ cap := by omega
  rw [← hxn] at hn hm hj ⊢
  clear hW1 hold1 hold hH hget hnews hlen hxn
  go_enter del_fn, del_nt
  go_wp2_with fail
  go_region_law_o (refine step_append_room rfl (.tmp 22) (.tmp 25) delT rfl delE i0 1 t22 hi0 hz1 blk off i cap (by simp [Act.eval, Act.put]) A (n - j) (cap - j) news (by simp [Act.eval, Act.put]) s1.out hsrc.out s2.out (by omega) s3.out ?_; rw [← hW.out])
  go_wp2
  go_ret
  refine ⟨rfl, ?_⟩
  exact X.out

/-- what lies there behind -/
theorem delW_get (blk off i j : Nat) (xs : List Int) (w : World) (hH : ∀ t x, xs[t]? = some x → w.cell? ⟨blk, off + t, none⟩ = some (.int .i64 x)) (hij : i ≤ j) (hj : j ≤ xs.length) (t : Nat) (ht : t < i + (xs.length - j)) :
    (delW blk off xs i j w).cell? ⟨blk, off + t, none⟩ = some (.int .i64 ((xs.take i ++ xs.drop j).getD t 0)) := by
  have hlen : (delNews xs j).length = xs.length - j := by simp [delNews]
  have hcell : ∀ t, t < xs.length → w.cell? ⟨blk, off + t, none⟩ = some (.int .i64 (xs.getD t 0)) := fun t ht => hH t _ (by simp [List.getD_eq_getElem?_getD, ht])
  unfold delW
  rw [World.cell?_setCells_out blk _ _ _ _ (fun _ _ => by show off + t < _ ∨ _ ≤ off + t; omega)]
  by_cases h : i ≤ t
  · have h1 := World.cell?_setCells_in blk (delNews xs j) (off + i * 1) w.drew (fun k hk => by
      have := hcell (i + k) (by omega)
      rw [show off + i * 1 + k = off + (i + k) by omega]
      show (w.cell? _).isSome = true
      rw [this]; rfl) (t - i) (by omega)
    rw [show off + i * 1 + (t - i) = off + t by omega] at h1
    rw [h1]
    simp only [delNews, List.getElem_map, List.getElem_drop, List.getD_eq_getElem?_getD]
    rw [List.getElem?_append_right (by simp; omega), List.getElem?_drop]
    simp only [List.length_take, Nat.min_eq_left (show i ≤ xs.length by omega)]
    rw [List.getElem?_eq_getElem (by omega)]
    rfl
  · rw [World.cell?_setCells_out blk _ _ _ _ (fun _ _ => by show off + t < _ ∨ _ ≤ off + t; omega)]
    show w.cell? _ = _
    rw [hcell t (by omega)]
    simp only [List.getD_eq_getElem?_getD]
    rw [List.getElem?_append_left (by simp; omega), List.getElem?_take, if_pos (by omega)]

/-! slices.Delete   int int  -/
def slices_Delete_f (_nf : Nat) (s : List Int) (i j : Int) : Option (List Int × Unit) :=
  bif decide (0 ≤ i) && (decide (i ≤ j) && (decide (j ≤ (s.length : Int)) && s.length.ble lim)) then some (s.take i.toNat ++ s.drop j.toNat, ()) else none
def slices_Delete_F (nf : Nat) (x : denPs [.val (.sl (.int .i64)) (.own false (.bor false false)), .val (.int .i64) (.bor true false), .val (.int .i64) (.bor true false)]) : Option (denL [(.sl (.int .i64), .own false (.bor false false))]) := slices_Delete_f nf x.1 x.2.1 x.2.2.1
def slices_Delete_C (nf : Nat) : Contract := ⟨[.val (.sl (.int .i64)) (.own false (.bor false false)), .val (.int .i64) (.bor true false), .val (.int .i64) (.bor true false)], [(.sl (.int .i64), .own false (.bor false false))], slices_Delete_F nf, []⟩
theorem slices_Delete_ok : FnOK Try.prog delF := ⟨Try.f83, codeOf Try.f83, Try.func83, by kernel_rfl, by kernel_rfl⟩

theorem args3 {args : Array Value} (h : args.size = 3) : args = #[args.getD 0 undef, args.getD 1 undef, args.getD 2 undef] := by
  apply Array.ext
  · simp [h]
  · intro i h1 h2
    have : i = 0 ∨ i = 1 ∨ i = 2 := by omega
    rcases this with rfl | rfl | rfl <;> simp [Array.getD, h]

theorem slices_Delete_holds (nf : Nat) : Contract.Holds Try.prog delF (slices_Delete_C nf) := by
  show ∀ (x : List Int × Int × Int × Unit) (r : List Int × Unit), slices_Delete_f nf x.1 x.2.1 x.2.2.1 = some r → _
  intro x r hx args w mu g hsize hfar _ _ hI
  obtain ⟨xs, i, j, u0⟩ := x
  have hx : slices_Delete_f nf xs i j = some r := hx
  unfold slices_Delete_f at hx
  have hc : 0 ≤ i ∧ i ≤ j ∧ j ≤ (xs.length : Int) ∧ xs.length ≤ lim ∧ r = (xs.take i.toNat ++ xs.drop j.toNat, ()) := by
    by_cases c1 : 0 ≤ i
    · by_cases c2 : i ≤ j
      · by_cases c3 : j ≤ (xs.length : Int)
        · cases c4 : xs.length.ble lim with
          | true =>
            simp only [c1, c2, c3, c4, decide_true, Bool.and_self, cond_true, Option.some.injEq] at hx
            exact ⟨c1, c2, c3, by simpa [Nat.ble_eq] using c4, hx.symm⟩
          | false => simp [c4] at hx
        · simp [c3] at hx
      · simp [c2] at hx
    · simp [c1] at hx
  obtain ⟨hi, hij, hj, hlim, rfl⟩ := hc
  have hs : args.size = 3 := hsize
  rw [args3 hs]
  -- the arguments
  have h0 : SlotR w g _ 0 (.ow (form + 0) (.sl (.int .i64)) (.own false (.bor false false)) xs) (args.getD 0 undef) := hI.slots 0
  have h1 : VR0 w g (Ab.look (initL (slices_Delete_C nf).ps 0 (xs, i, j, u0))) (.v (.int .i64) (.bor true false) i) (args.getD 1 undef) := hI.slots 1
  have h2 : VR0 w g (Ab.look (initL (slices_Delete_C nf).ps 0 (xs, i, j, u0))) (.v (.int .i64) (.bor true false) j) (args.getD 2 undef) := hI.slots 2
  have hint : ∀ {k : Int} {v : Value}, shapeV (.int .i64) v → RR w g 0 (.int .i64) (.bor true false) [] (.val v.cells) 0 k → v = .int .i64 k := by
    intro k v hsh hr
    have hsh : v.cells = #[v] := hsh
    have hr : v.cells[0 + 0]? = some (.int .i64 k) := hr
    rw [hsh] at hr
    simpa using hr
  have e1 := hint h1.2.1 h1.2.2
  have e2 := hint h2.2.1 h2.2.2
  obtain ⟨hsh, hr⟩ := h0
  have hsh : (args.getD 0 undef).cells = #[args.getD 0 undef] := hsh
  simp only [RR, Md.isOwn] at hr
  obtain ⟨a, cap, hr1, hr2, hr3, _, hr5⟩ := hr
  have e0 : args.getD 0 undef = .slice a xs.length cap := by
    have hr1 : (args.getD 0 undef).cells[0 + 0]? = some (g.H 0 []) := hr1
    rw [hsh, hr2] at hr1
    simpa using hr1
  rw [e0, e1, e2]
  have ei : i = ((i.toNat : Nat) : Int) := by omega
  have ej : j = ((j.toNat : Nat) : Int) := by omega
  cases a with
  | none =>
    obtain ⟨rfl, rfl⟩ := hr5
    have hi0 : i = 0 := by simp at hj; omega
    have hj0 : j = 0 := by simp at hj; omega
    subst hi0 hj0
    refine (del_nil w).mono ?_
    rintro e w' ⟨rfl, rfl⟩
    refine ⟨[.slice none 0 0], ⟨fun b => if g.col b = some lentC then some lentC else none, fun _ _ => .slice none 0 0, fun _ _ => (0, 0)⟩, rfl, hI.fr, ⟨_, [], rfl, rfl, ?_, rfl⟩, ⟨_, rfl⟩, fun b k hk => ?_, fun b hb => if_pos (hI.lk b hb)⟩
    · simp only [RR, Md.isOwn]
      exact ⟨none, 0, rfl, rfl, Nat.le_refl _, fun h => (by cases h), rfl, rfl⟩
    · simp only at hk
      split at hk
      · rename_i hl
        cases hk
        exact ⟨(hI.cols b _ hl).1, .inl rfl⟩
      · cases hk
  | some ad =>
    obtain ⟨hsp, hcol, ⟨c, el, hheap, hroom⟩, hel⟩ := hr5
    obtain ⟨blk, off, sp⟩ := ad
    simp only at hsp hcol hheap hroom hel
    subst hsp
    have hl1 : (0 : Nat) ≠ lentC.1 := by decide
    have hH : ∀ t x, xs[t]? = some x → w.cell? ⟨blk, off + t, none⟩ = some (.int .i64 x) := fun t x hx => by
      obtain ⟨ht, hx⟩ := List.getElem?_eq_some_iff.1 hx
      have := (hel t ht).2
      simp only [rdS, sz] at this
      simp only [Nat.mul_one, Nat.add_zero] at this
      rw [this, List.getD_eq_getElem?_getD, List.getElem?_eq_getElem ht]
      exact congrArg some (by rw [← hx]; rfl)
    have hfz : ∀ o, w.frozen? ⟨blk, o, none⟩ = false := fun o => by simp [World.frozen?, hheap]
    have hblk := hI.cols blk _ hcol
    have hlen2 : (xs.take i.toNat ++ xs.drop j.toNat).length = i.toNat + (xs.length - j.toNat) := by simp; omega
    -- the world behind
    have main : ∀ w', (w'.heap.size = w.heap.size ∧ w'.os = w.os ∧ w'.tape = w.tape ∧ w'.output = w.output ∧ (∀ b', b' ≠ blk → w'.heap[b']? = w.heap[b']?) ∧ ∃ c', w'.heap[blk]? = some (.cells c' el (0, 0)) ∧ c'.size = c.size) →
        (∀ t, t < i.toNat + (xs.length - j.toNat) → w'.cell? ⟨blk, off + t, none⟩ = some (.int .i64 ((xs.take i.toNat ++ xs.drop j.toNat).getD t 0))) →
        ∃ vs g', Ending.returned (.slice (some ⟨blk, off, none⟩) (i.toNat + (xs.length - j.toNat)) cap) = .returned (retV ((slices_Delete_C nf).outV vs)) ∧ Fr w mu w' ∧ ResR w' g' (slices_Delete_C nf).rs (xs.take i.toNat ++ xs.drop j.toNat, ()) 0 vs ∧
          (∃ vs', vs = (slices_Delete_C nf).io.map (fun p => (#[.slice (some ⟨blk, off, none⟩) xs.length cap, .int .i64 i, .int .i64 j] : Array Value).getD p undef) ++ vs') ∧
          (∀ b k, g'.col b = some k → b < w'.heap.size ∧ (k = lentC ∨ w.heap.size ≤ b ∨ mu b)) ∧ (∀ b, mu.L b → g'.col b = some lentC) := by
      rintro w' ⟨q1, q2, q3, q4, q5, c', q6, q7⟩ hget
      refine ⟨[.slice (some ⟨blk, off, none⟩) (i.toNat + (xs.length - j.toNat)) cap], ⟨fun b => if b = blk then some (resS, []) else if g.col b = some lentC then some lentC else none, fun _ _ => .slice (some ⟨blk, off, none⟩) (i.toNat + (xs.length - j.toNat)) cap, fun _ p => match p with | [.el t] => (blk, off + t * 1) | _ => (0, 0)⟩,
        rfl, ⟨q2, q3, q4, Nat.le_of_eq q1.symm, fun b _ hb => q5 b fun h => ?_⟩, ⟨_, [], rfl, rfl, ?_, rfl⟩, ⟨_, rfl⟩, fun b k hk => ?_, fun b hb => ?_⟩
      · subst h
        rcases hblk.2 with h | h | h
        · exact hl1 (congrArg Prod.fst h)
        · omega
        · exact hb h
      · simp only [RR, Md.isOwn]
        refine ⟨some ⟨blk, off, none⟩, cap, rfl, by rw [hlen2], by rw [hlen2]; omega, fun h => (by cases h), rfl, by simp, ⟨c', el, q6, by rw [q7]; exact hroom⟩, fun t ht => ⟨rfl, ?_⟩⟩
        rw [hlen2] at ht
        have := hget t ht
        simp only [rdS, sz, Nat.mul_one, Nat.add_zero]
        exact this
      · simp only at hk
        split at hk
        · rename_i hb
          cases hk
          subst hb
          refine ⟨by rw [q1]; exact hblk.1, ?_⟩
          rcases hblk.2 with h | h
          · exact absurd (congrArg Prod.fst h) hl1
          · exact .inr h
        · split at hk
          · rename_i hl
            cases hk
            exact ⟨by rw [q1]; exact (hI.cols b _ hl).1, .inl rfl⟩
          · cases hk
      · have hbl := hI.lk b hb
        have : b ≠ blk := fun h => by
          rw [h, hcol] at hbl
          exact hl1 (congrArg Prod.fst (Option.some.inj hbl))
        simp only [this, if_false]
        exact if_pos hbl
    have hlim' : xs.length ≤ 4294967296 := hlim
    by_cases hlt : i < j
    · have key := del_less blk off cap i.toNat j.toNat xs w (fun t x hx => ⟨hH t x hx, hfz _⟩) hr3 (by omega) (by omega) (by omega)
      rw [← ei, ← ej] at key
      refine key.mono ?_
      rintro e w' ⟨rfl, rfl⟩
      obtain ⟨a1, a2, a3, a4, a5, a6⟩ := setCells_obj blk (delNews xs j.toNat) (off + i.toNat * 1) w.drew
      obtain ⟨c1, hc1, hc2⟩ := a6 c el (0, 0) hheap
      obtain ⟨b1, b2, b3, b4, b5, b6⟩ := setCells_obj blk (List.replicate (xs.length - (i.toNat + (xs.length - j.toNat))) (.int .i64 0)) (off + (i.toNat + (xs.length - j.toNat))) (w.drew.setCells blk (off + i.toNat * 1) (delNews xs j.toNat))
      obtain ⟨c2, hc3, hc4⟩ := b6 c1 el (0, 0) hc1
      refine main _ ⟨b1.trans a1, b2.trans a2, b3.trans a3, b4.trans a4, fun b' hb => (b5 b' hb).trans (a5 b' hb), c2, hc3, hc4.trans hc2⟩ fun t ht => delW_get blk off i.toNat j.toNat xs w hH (by omega) (by omega) t ht
    · have hje : j = i := by omega
      subst hje
      have key := del_same blk off cap xs.length j.toNat w hr3 (by omega) (by omega)
      rw [← ej] at key
      refine key.mono ?_
      rintro e w' ⟨rfl, rfl⟩
      have hn : j.toNat + (xs.length - j.toNat) = xs.length := by omega
      have := main w' ⟨rfl, rfl, rfl, rfl, fun _ _ => rfl, c, hheap, rfl⟩ fun t ht => by
        rw [List.take_append_drop]
        exact hH t _ (by simp [List.getD_eq_getElem?_getD, show t < xs.length by omega])
      rw [hn] at this
      exact this
end Go.Proofs.Ytoglkjmdloppcaa.S
