/- slices.Grow, of a nil slice of 32-bit words: its contract. -/
import Derived.Test.YtoglkjmdloppcaaAbFn
import Derived.Test.YtoglkjmdloppcaaChecked
import Derived.Shelf.RegionOpenPlain
import Derived.WalkKit
import Derived.Lib.Walk
import Derived.Lib.SliceRun
import Derived.Lib.AppendZerosOnto
import Derived.KernelRfl
namespace Go.Proofs.Ytoglkjmdloppcaa.S
open Go Go.RowKit Go.Shelf Go.Ab

abbrev growF : Nat := 88
abbrev growT : Nat := 23
abbrev growE : Nat := 24
abbrev growI : Nat := 3
theorem grow_fn : Try.prog.funcs[growF]? = some Try.f88 := Try.func88
theorem grow_nt : Try.f88.ntmps = 27 := by kernel_rfl
theorem grow_t : Try.prog.underlying growT = some (.slice growE) := by kernel_rfl
theorem grow_k : Try.prog.underlying growI = some (.int .i64) := by kernel_rfl
theorem grow_i : (Try.prog.info? growE).map (fun i => (i.zero, i.size, i.bytes)) = some (some (.int .u32 0), 1, 4) := by kernel_rfl
theorem grow_mixed : Try.prog.follows .mixedOrders = true := by kernel_rfl

set_option maxHeartbeats 4000000 in
set_option maxRecDepth 1000000 in
theorem grow_zero (w : World) : Calls Try.prog growF #[.slice none 0 0, .int .i64 0] w fun e w' => e = .returned (.slice none 0 0) ∧ w' = w := by
  have t23 := grow_t
  have t3 := grow_k
  have mixed := grow_mixed
  go_enter grow_fn, grow_nt
  go_wp2
  all_goals (go_ret; exact ⟨rfl, rfl⟩)

set_option maxHeartbeats 4000000 in
set_option maxRecDepth 1000000 in
theorem grow_some (n : Nat) (h0 : 0 < n) (hn : n ≤ 4294967296) (w : World) : Calls Try.prog growF #[.slice none 0 0, .int .i64 n] w fun e w' =>
    ∃ (G : Nat) (C : Array Value), e = .returned (.slice (some ⟨w.heap.size, 0, none⟩) 0 G) ∧ G ≤ C.size ∧ w' = w.drew.alloc (.cells C growE) := by
  have t23 := grow_t
  have t3 := grow_k
  have mixed := grow_mixed
  obtain ⟨i0, hi0, hz0, hz1, hz2⟩ := info_parts grow_i
  have h2 : wrap64 ((0 : Int) - 0) = 0 := by unfold wrap64; omega
  have h3 : wrap64 ((n : Int) - 0) = (n : Int) := by unfold wrap64; omega
  have hold : (Builtin.firstCells i0.size 0 (.slice none 0 0)).run Try.prog w.drew = .ok #[] w.drew := run_firstCells_none w.drew i0.size 0 0 0
  have hrz : ∀ ty, (Builtin.append_ #[growT, growI] ty #[.slice none 0 0, .int .i64 (n : Int)]).run Try.prog w =
      .ok (.slice (some ⟨w.heap.size, 0, none⟩) n (grownCap w n 0 growE)) (w.drew.alloc (.cells (#[] ++ Builtin.zeroCells (Value.int .u32 0).cells n ++ Builtin.zeroCells (Value.int .u32 0).cells (grownCap w n 0 growE - n)) growE)) := fun ty => by
    have h := Lib.run_append_grow_zeros (P := Try.prog) w growT growI ty growE i0 (.int .u32 0) .i64 .i64 t23 t3 hi0 hz0 none 0 0 [] hold n h0 (by rw [hz1]; decide) (by omega) (by omega) (by rw [hz2]; omega) (by rw [hz2, Nat.zero_add]; simp only [Builtin.nextslicecap]; split <;> omega)
    simpa using h
  have hGn : n ≤ grownCap w n 0 growE := grownCap_ge w _ _ _
  have hG63 : grownCap w n 0 growE ≤ 9223372036854775807 := by
    have := grownCap_le_maxLen w n 0 growE (by unfold maxLen; omega)
    unfold maxLen at this
    omega
  obtain ⟨G, hG⟩ : ∃ G, G = grownCap w n 0 growE := ⟨_, rfl⟩
  rw [← hG] at hrz hGn hG63
  obtain ⟨C, hC⟩ : ∃ C, C = #[] ++ Builtin.zeroCells (Value.int .u32 0).cells n ++ Builtin.zeroCells (Value.int .u32 0).cells (G - n) := ⟨_, rfl⟩
  rw [← hC] at hrz
  have hCs : Hid (G ≤ C.size) := by
    show G ≤ C.size
    rw [hC]
    simp [Builtin.zeroCells, Value.cells]
    omega
  clear hold hG hC
  go_enter grow_fn, grow_nt
  go_wp2_with (at_builtin; refine Lib.wpList_append_run _ rfl _ _ _ _ rfl _ _ rfl rfl _ _ (hrz _) ?_)
  all_goals (go_ret; exact ⟨G, C, rfl, hCs.out, rfl⟩)

/-! slices.Grow   uint32 uint32  -/
def slices_Grow_f (_nf : Nat) (s : List Int) (n : Int) : Option (List Int × Unit) :=
  bif List.isEmpty s && (decide (0 ≤ n) && decide (n ≤ 4294967296)) then some ([], ()) else none
def slices_Grow_F (nf : Nat) (x : denPs [.val (.sl (.int .u32)) (.own true (.bor false true)), .val (.int .i64) (.bor true false)]) : Option (denL [(.sl (.int .u32), .own false (.bor false false))]) := slices_Grow_f nf x.1 x.2.1
def slices_Grow_C (nf : Nat) : Contract := ⟨[.val (.sl (.int .u32)) (.own true (.bor false true)), .val (.int .i64) (.bor true false)], [(.sl (.int .u32), .own false (.bor false false))], slices_Grow_F nf, []⟩
theorem slices_Grow_ok : FnOK Try.prog growF := ⟨Try.f88, codeOf Try.f88, Try.func88, by kernel_rfl, by kernel_rfl⟩

theorem args2 {args : Array Value} (h : args.size = 2) : args = #[args.getD 0 undef, args.getD 1 undef] := by
  apply Array.ext
  · simp [h]
  · intro i h1 h2
    have : i = 0 ∨ i = 1 := by omega
    rcases this with rfl | rfl <;> simp [Array.getD, h]

theorem slices_Grow_holds (nf : Nat) : Contract.Holds Try.prog growF (slices_Grow_C nf) := by
  show ∀ (x : List Int × Int × Unit) (r : List Int × Unit), slices_Grow_f nf x.1 x.2.1 = some r → _
  intro x r hx args w mu g hsize hfar _ _ hI
  obtain ⟨xs, n, u0⟩ := x
  have hx : slices_Grow_f nf xs n = some r := hx
  unfold slices_Grow_f at hx
  have hc : xs = [] ∧ 0 ≤ n ∧ n ≤ 4294967296 ∧ r = ([], ()) := by
    cases xs with
    | cons _ _ => simp at hx
    | nil =>
      by_cases c1 : 0 ≤ n
      · by_cases c2 : n ≤ 4294967296
        · simp [c1, c2] at hx
          exact ⟨rfl, c1, c2, hx.symm⟩
        · simp [c2] at hx
      · simp [c1] at hx
  obtain ⟨rfl, hn0, hn1, rfl⟩ := hc
  have hs : args.size = 2 := hsize
  rw [args2 hs]
  have h0 : SlotR w g _ 0 (.ow (form + 0) (.sl (.int .u32)) (.own true (.bor false true)) []) (args.getD 0 undef) := hI.slots 0
  have h1 : VR0 w g (Ab.look (initL (slices_Grow_C nf).ps 0 ([], n, u0))) (.v (.int .i64) (.bor true false) n) (args.getD 1 undef) := hI.slots 1
  have hint : ∀ {k : Int} {v : Value}, shapeV (.int .i64) v → RR w g 0 (.int .i64) (.bor true false) [] (.val v.cells) 0 k → v = .int .i64 k := by
    intro k v hsh hr
    have hsh : v.cells = #[v] := hsh
    have hr : v.cells[0 + 0]? = some (.int .i64 k) := hr
    rw [hsh] at hr
    simpa using hr
  have e1 := hint h1.2.1 h1.2.2
  obtain ⟨hsh, hr⟩ := h0
  have hsh : (args.getD 0 undef).cells = #[args.getD 0 undef] := hsh
  simp only [RR, Md.isOwn] at hr
  obtain ⟨a, cap, hr1, hr2, hr3, hnz, hr5⟩ := hr
  have e0 : args.getD 0 undef = .slice a 0 cap := by
    have hr1 : (args.getD 0 undef).cells[0 + 0]? = some (g.H 0 []) := hr1
    rw [hsh, hr2] at hr1
    simpa using hr1
  have ha : a = none := hnz rfl trivial
  subst ha
  obtain ⟨_, rfl⟩ := hr5
  rw [e0, e1]
  have en : n = ((n.toNat : Nat) : Int) := by omega
  by_cases hz : n = 0
  · subst hz
    refine (grow_zero w).mono ?_
    rintro e w' ⟨rfl, rfl⟩
    refine ⟨[.slice none 0 0], ⟨fun b => if g.col b = some lentC then some lentC else none, fun _ _ => .slice none 0 0, fun _ _ => (0, 0)⟩, rfl, hI.fr, ⟨_, [], rfl, rfl, ?_, rfl⟩, ⟨_, rfl⟩, fun b k hk => ?_, fun b hb => if_pos (hI.lk b hb)⟩
    · simp only [RR, Md.isOwn]
      exact ⟨none, 0, rfl, rfl, Nat.le_refl _, fun h => (by cases h), trivial, rfl⟩
    · simp only at hk
      split at hk
      · rename_i hl
        cases hk
        exact ⟨(hI.cols b _ hl).1, .inl rfl⟩
      · cases hk
  · have key := grow_some n.toNat (by omega) (by omega) w
    rw [← en] at key
    refine key.mono ?_
    rintro e w' ⟨G, C, rfl, hGC, rfl⟩
    have hl1 : (resS, ([] : List Stp)) ≠ lentC := by decide
    refine ⟨[.slice (some ⟨w.heap.size, 0, none⟩) 0 G], ⟨fun b => if b = w.heap.size then some (resS, []) else if g.col b = some lentC then some lentC else none, fun _ _ => .slice (some ⟨w.heap.size, 0, none⟩) 0 G, fun _ _ => (0, 0)⟩,
      rfl, Fr_alloc (Fr_drew hI.fr) _, ⟨_, [], rfl, rfl, ?_, rfl⟩, ⟨_, rfl⟩, fun b k hk => ?_, fun b hb => ?_⟩
    · simp only [RR, Md.isOwn]
      refine ⟨some ⟨w.heap.size, 0, none⟩, G, rfl, rfl, Nat.zero_le _, fun h => (by cases h), rfl, by simp, ⟨C, growE, alloc_new (w := w.drew), by simp [sz]; exact hGC⟩, fun t ht => absurd ht (Nat.not_lt_zero t)⟩
    · simp only at hk
      split at hk
      · rename_i hb
        cases hk
        subst hb
        exact ⟨by rw [World.size_alloc]; exact Nat.lt_succ_self _, .inr (.inl (Nat.le_refl _))⟩
      · split at hk
        · rename_i hl
          cases hk
          have := (hI.cols b _ hl).1
          exact ⟨by rw [World.size_alloc]; exact Nat.lt_succ_of_lt this, .inl rfl⟩
        · cases hk
    · have hbl := hI.lk b hb
      have : b ≠ w.heap.size := Nat.ne_of_lt (hI.cols b _ hbl).1
      simp only [this, if_false]
      exact if_pos hbl
end Go.Proofs.Ytoglkjmdloppcaa.S
