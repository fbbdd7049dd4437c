/- stack.Code's own function, which calls itself in two places: what it does to the code. -/
import Derived.Test.YtoglkjmdloppcaaFn1
import Derived.Test.YtoglkjmdloppcaaAbSelf
namespace Go.Proofs.Ytoglkjmdloppcaa.S
open Go Go.Ab
noncomputable section

abbrev tT : Ty := .pair (.int .i64) (.pair (.int .i64) (.pair (.int .i64) (.pair (.int .i64) .unit)))
abbrev tO : Ty := .pair (.int .i64) (.pair (.int .i64) .unit)
abbrev Trm := Int × Int × Int × Int × Unit
abbrev SOp := Int × Int × Unit
abbrev mO : Md := .own true (.pair (.bor false true) (.pair (.bor false true) (.bor false true)))
@[reducible] def put_bxs : List (Nat × Ty × Md) := [(3, .sl tO, mO)]
@[reducible] def put_ros : List (Nat × Ty × Md) := [(1, .sl tT, .bor true false)]
abbrev PS := List SOp × Unit
abbrev PF := List Int → PS → List Trm × Unit → Option PS

def cL : Code → Code | .seq x _ => x | .cond _ x _ => x | c => c
def cR : Code → Code | .seq _ y => y | .cond _ _ y => y | c => c
def cO : Code → Array Oper | .region _ os _ => os | _ => #[]
def pb1 : Code := cR (codeOf Try.f57)
def pb2 : Code := cR (cL pb1)
def pb3 : Code := cL pb2
def po0 : Array Oper := cO (cL (codeOf Try.f57))
def po1 : Array Oper := cO (cL (cL pb1))
def po2 : Array Oper := cO (cL pb3)
def po3 : Array Oper := cO (cL (cR pb3))
def po4 : Array Oper := cO (cR (cR pb3))
def po5 : Array Oper := cO (cR pb1)
theorem put_body : codeOf Try.f57 = .seq (.region 0 po0 false) (.seq (.seq (.region 1 po1 false) (.cond (.tmp 12) (.seq (.region 2 po2 false) (.seq (.region 3 po3 false) (.region 4 po4 false))) .skip)) (.region 5 po5 false)) := by kernel_rfl

def pOp (os : Array Oper) (i : Nat) : Oper := os.toList.getD i default
def pCall (os : Array Oper) : Call := match (pOp os 3).op with | .call c => c | _ => default
noncomputable def put_C2 (self : PF) : SelfC := ⟨13, [pOp po2 1, pOp po2 2], [15], 16, put_bxs, put_ros, self, po2⟩
noncomputable def put_C3 (self : PF) : SelfC := ⟨17, [pOp po3 1, pOp po3 2], [19], 20, put_bxs, put_ros, self, po3⟩
noncomputable def put_sc (self : PF) (id : Nat) : Option SelfC := match Nat.beq id 2 with
  | true => some (put_C2 self)
  | false => match Nat.beq id 3 with | true => some (put_C3 self) | false => none
noncomputable def put_tab (self : PF) : Tab := ⟨tab.ty, tab.md, tab.arr, tab.str, put_sc self, tab.bk⟩
def put_phi : Nat → Option Contract := lookC []
def put_keep : Nat → List Nat := lookK []

/-- one behind the code -/
noncomputable def put_a (L : List SOp) (x : SOp) : Option PS := bif !List.isEmpty [x] && Nat.ble (L.length + [x].length) lim then some (L ++ [x], ()) else none
noncomputable def put_f (self : PF) (l : List Trm) (i : Int) (L : List SOp) : Option PS :=
  bif inb i l.length then
    bif decide ((l.getD i.toNat (0, 0, 0, 0, ())).1 > 2) then
      Option.bind (self [(l.getD i.toNat (0, 0, 0, 0, ())).2.1] (L, ()) (l, ())) fun r =>
      Option.bind (self [(l.getD i.toNat (0, 0, 0, 0, ())).2.2.1] (r.1, ()) (l, ())) fun r' =>
      put_a r'.1 ((l.getD i.toNat (0, 0, 0, 0, ())).1, 0, ())
    else
      put_a L ((l.getD i.toNat (0, 0, 0, 0, ())).1, (l.getD i.toNat (0, 0, 0, 0, ())).2.2.2.1, ())
  else
    none
theorem put_eq (self : PF) (l : List Trm) (i : Int) (L : List SOp) : runS (put_tab self) put_phi put_keep 0 put_bxs put_ros (codeOf Try.f57) [i] (L, ()) (l, ()) = put_f self l i L := by kernel_rfl
noncomputable def put_F : Nat → PF
  | 0, _, _, _ => none
  | nf + 1, az, x, z => match az with | [i] => put_f (put_F nf) z.1 i x.1 | _ => none

theorem put_ok : FnOK Try.prog 57 := ⟨Try.f57, codeOf Try.f57, Try.func57, by kernel_rfl, by kernel_rfl⟩
theorem put_mid {os : Array Oper} {d1 : Nat} (h : ((pOp os 1).guard.isNone && (pOp os 2).guard.isNone && !decide ((pOp os 1).dst = some d1) && !decide ((pOp os 2).dst = some d1)) = true) : ∀ o ∈ [pOp os 1, pOp os 2], o.guard = none ∧ o.dst ≠ some d1 := by
  simp only [Bool.and_eq_true, Option.isNone_iff_eq_none, Bool.not_eq_true', decide_eq_false_iff_not] at h
  intro o ho
  simp only [List.mem_cons, List.not_mem_nil, or_false] at ho
  rcases ho with rfl | rfl
  · exact ⟨h.1.1.1, h.1.2⟩
  · exact ⟨h.1.1.2, h.2⟩
theorem put_slots : ∀ s, s ∈ slotsB put_bxs ∨ s ∈ slotsB put_ros → 1 ≤ s ∧ s < 4 := by
  intro s hs
  have hs : s ∈ [3] ∨ s ∈ [1] := hs
  simp only [List.mem_cons, List.not_mem_nil, or_false] at hs
  omega
theorem put_apart : ∀ s, s ∈ slotsB put_ros → s ∉ slotsB put_bxs := by
  intro s hs
  have hs : s ∈ [1] := hs
  simp only [List.mem_cons, List.not_mem_nil, or_false] at hs
  subst hs
  show (1 : Nat) ∉ [3]
  decide
theorem put_nl : ∀ x ∈ put_bxs, noLent x.2.2 = true := by
  intro x hx
  simp only [put_bxs, List.mem_cons, List.not_mem_nil, or_false] at hx
  subst hx; rfl
theorem put_text2 (self : PF) : SelfText Try.prog 57 1 4 2 (put_C2 self) (pOp po2 0) (pOp po2 3) 95 (pCall po2) where
  fn := put_ok
  os := by kernel_rfl
  l1 := by kernel_rfl
  l2 := by kernel_rfl
  l3 := by kernel_rfl
  c1 := by kernel_rfl
  c2 := by kernel_rfl
  c3 := by kernel_rfl
  c4 := by kernel_rfl
  c5 := by kernel_rfl
  mid := put_mid (by kernel_rfl)
  agg := fun w => by kernel_rfl
  k := rfl
  knp := by decide
  slots := put_slots
  apart := put_apart
  nd := by show (16 : Nat) ∉ [3]; decide
  me1 := by decide
  me2 := by decide
  nl := put_nl
  few := by decide
theorem put_text3 (self : PF) : SelfText Try.prog 57 1 4 2 (put_C3 self) (pOp po3 0) (pOp po3 3) 95 (pCall po3) where
  fn := put_ok
  os := by kernel_rfl
  l1 := by kernel_rfl
  l2 := by kernel_rfl
  l3 := by kernel_rfl
  c1 := by kernel_rfl
  c2 := by kernel_rfl
  c3 := by kernel_rfl
  c4 := by kernel_rfl
  c5 := by kernel_rfl
  mid := put_mid (by kernel_rfl)
  agg := fun w => by kernel_rfl
  k := rfl
  knp := by decide
  slots := put_slots
  apart := put_apart
  nd := by show (20 : Nat) ∉ [3]; decide
  me1 := by decide
  me2 := by decide
  nl := put_nl
  few := by decide
theorem put_sc_some {self : PF} {id : Nat} {C : SelfC} (h : put_sc self id = some C) : (id = 2 ∧ C = put_C2 self) ∨ (id = 3 ∧ C = put_C3 self) := by
  unfold put_sc at h
  split at h
  · rename_i hb
    exact .inl ⟨Nat.eq_of_beq_eq_true hb, (Option.some.inj h).symm⟩
  · split at h
    · rename_i hb
      exact .inr ⟨Nat.eq_of_beq_eq_true hb, (Option.some.inj h).symm⟩
    · cases h
theorem put_holds : ∀ nf : Nat, SelfHolds Try.prog 57 1 4 2 put_bxs put_ros (put_F nf)
  | 0 => fun _ _ _ _ h => by cases h
  | nf + 1 => by
    have hcs : codeS (put_tab (put_F nf)) (codeOf Try.f57) := by
      have hr : ∀ (id : Nat) (os : Array Oper), (id = 2 → os = po2) → (id = 3 → os = po3) → codeS (put_tab (put_F nf)) (.region id os false) := fun id os h2 h3 C hC => by
        rcases put_sc_some hC with ⟨e, rfl⟩ | ⟨e, rfl⟩
        · exact ⟨h2 e, rfl⟩
        · exact ⟨h3 e, rfl⟩
      rw [put_body]
      exact ⟨hr 0 _ (fun h => by cases h) (fun h => by cases h), ⟨hr 1 _ (fun h => by cases h) (fun h => by cases h), ⟨hr 2 _ (fun _ => rfl) (fun h => by cases h), hr 3 _ (fun h => by cases h) (fun _ => rfl), hr 4 _ (fun h => by cases h) (fun h => by cases h)⟩, trivial⟩,
        hr 5 _ (fun h => by cases h) (fun h => by cases h)⟩
    refine self_holds (T := put_tab (put_F nf)) (Φ := put_phi) (C := put_C2 (put_F nf)) (fn := Try.f57) (keep := put_keep) (n := 0) ⟨tabs.1, tabs.2, ctx_nil, mixed, bk_ok bkls rfl⟩ (put_text2 (put_F nf)) Try.func57 (by kernel_rfl) (by kernel_rfl) (by kernel_rfl)
      hcs (fun id C' h => ?_) ?_
    · rcases put_sc_some h with ⟨_, rfl⟩ | ⟨_, rfl⟩
      · exact ⟨⟨_, _, _, _, put_text2 (put_F nf)⟩, put_holds nf⟩
      · exact ⟨⟨_, _, _, _, put_text3 (put_F nf)⟩, put_holds nf⟩
    · intro az xs zs ys haz hy
      obtain ⟨L, _⟩ := xs
      obtain ⟨l, _⟩ := zs
      match az, haz with
      | [i], _ =>
        rw [← hy]
        exact put_eq (put_F nf) l i L
end
end Go.Proofs.Ytoglkjmdloppcaa.S
