/- way.walk's own function, which calls itself: what it does to the list of what was seen, and to the list of what was left. -/
import Derived.Test.YtccbcbhiblohgaaFn1
import Derived.Test.YtccbcbhiblohgaaAbSelf
namespace Go.Proofs.Ytccbcbhiblohgaa.S
open Go Go.Ab
noncomputable section

@[reducible] def visit_bxs : List (Nat × Ty × Md) := [(1, .sl .bool, .own false (.bor false false)), (4, .sl (.int .i64), .own true (.bor false true))]
@[reducible] def visit_ros : List (Nat × Ty × Md) := [(2, .sl (.sl (.int .i64)), .bor true false)]
abbrev VS := List Bool × List Int × Unit
abbrev VF := List Int → VS → List (List Int) × Unit → Option VS
def findR (id : Nat) : Code → Option (Array Oper)
  | .region i os _ => match Nat.beq i id with | true => some os | false => none
  | .seq x y | .cond _ x y => match findR id x with | some os => some os | none => findR id y
  | .block _ c | .loop c => findR id c
  | _ => none
def countR (id : Nat) : Code → Nat
  | .region i _ _ => match Nat.beq i id with | true => 1 | false => 0
  | .seq x y | .cond _ x y => countR id x + countR id y
  | .block _ c | .loop c => countR id c
  | _ => 0
def drawnR (id : Nat) : Code → Bool
  | .region i _ d => match Nat.beq i id with | true => d | false => false
  | .seq x y | .cond _ x y => drawnR id x || drawnR id y
  | .block _ c | .loop c => drawnR id c
  | _ => false
theorem codeS_zero {T : Tab} {id : Nat} (hsc : ∀ i C', T.sc i = some C' → i = id) : ∀ c, countR id c = 0 → codeS T c := by
  intro c
  induction c with
  | region i os d =>
    intro h C hC
    have := hsc i C hC
    subst this
    simp [countR, Nat.beq_refl] at h
  | seq x y ihx ihy => intro h; simp only [countR] at h; exact ⟨ihx (by omega), ihy (by omega)⟩
  | cond c x y ihx ihy => intro h; simp only [countR] at h; exact ⟨ihx (by omega), ihy (by omega)⟩
  | block id c ih => exact ih
  | loop c ih => exact ih
  | _ => intros; trivial
theorem findR_none {id : Nat} : ∀ c, countR id c = 0 → findR id c = none := by
  intro c
  induction c with
  | region i os d =>
    intro h
    simp only [countR, findR] at h ⊢
    split at h
    · cases h
    · rfl
  | seq x y ihx ihy => intro h; simp only [countR] at h; simp only [findR, ihx (by omega), ihy (by omega)]
  | cond c x y ihx ihy => intro h; simp only [countR] at h; simp only [findR, ihx (by omega), ihy (by omega)]
  | block id c ih => exact ih
  | loop c ih => exact ih
  | _ => intros; rfl
theorem codeS_one {T : Tab} {id : Nat} {C : SelfC} (hsc : ∀ i C', T.sc i = some C' → i = id ∧ C' = C) : ∀ c, countR id c ≤ 1 → drawnR id c = false → (∀ os, findR id c = some os → C.os = os) → codeS T c := by
  intro c
  induction c with
  | region i os d =>
    intro h hd hf C' hC
    obtain ⟨rfl, rfl⟩ := hsc i C' hC
    simp only [drawnR, Nat.beq_refl] at hd
    exact ⟨(hf os (by simp [findR, Nat.beq_refl])).symm, hd⟩
  | seq x y ihx ihy =>
    intro h hd hf
    simp only [countR] at h
    simp only [drawnR, Bool.or_eq_false_iff] at hd
    by_cases hx : countR id x = 0
    · exact ⟨codeS_zero (fun i C' h => (hsc i C' h).1) x hx, ihy (by omega) hd.2 fun os ho => hf os (by simp only [findR, findR_none x hx]; exact ho)⟩
    · exact ⟨ihx (by omega) hd.1 fun os ho => hf os (by simp only [findR, ho]), codeS_zero (fun i C' h => (hsc i C' h).1) y (by omega)⟩
  | cond c x y ihx ihy =>
    intro h hd hf
    simp only [countR] at h
    simp only [drawnR, Bool.or_eq_false_iff] at hd
    by_cases hx : countR id x = 0
    · exact ⟨codeS_zero (fun i C' h => (hsc i C' h).1) x hx, ihy (by omega) hd.2 fun os ho => hf os (by simp only [findR, findR_none x hx]; exact ho)⟩
    · exact ⟨ihx (by omega) hd.1 fun os ho => hf os (by simp only [findR, ho]), codeS_zero (fun i C' h => (hsc i C' h).1) y (by omega)⟩
  | block id c ih => exact ih
  | loop c ih => exact ih
  | _ => intros; trivial

def visit_os : Array Oper := match findR 5 (codeOf Try.f76) with | some os => os | none => #[]
def visit_ol : Oper := visit_os.toList.getD 0 default
def visit_om : Oper := visit_os.toList.getD 1 default
def visit_oc : Oper := visit_os.toList.getD 2 default
def visit_c : Call := match visit_oc.op with | .call c => c | _ => default
def visit_C (self : VF) : SelfC := ⟨25, [visit_om], [26], 27, visit_bxs, visit_ros, self, visit_os⟩
def visit_sc (self : VF) (id : Nat) : Option SelfC := match Nat.beq id 5 with | true => some (visit_C self) | false => none
def visit_tab (self : VF) : Tab := ⟨tab.ty, tab.md, tab.arr, tab.str, visit_sc self⟩
def visit_phi : Nat → Option Contract := lookC []
def visit_keep : Nat → List Nat := lookK [(0, [0, 1, 2, 4, 14, 15, 16])]

def visit_b0 (self : VF) (next : List (List Int)) (i : Int) (g0 : List Bool → List Int → Int → Option VS) (S : List Bool) (L : List Int) (t : Int) : Option VS :=
  bif decide (t < ((next.getD i.toNat []).length : Int)) then
    bif inb t (next.getD i.toNat []).length then
      bif inb ((next.getD i.toNat []).getD t.toNat 0) S.length then
        bif !(S.getD ((next.getD i.toNat []).getD t.toNat 0).toNat false) then
          Option.bind (self [(next.getD i.toNat []).getD t.toNat 0] (S, L, ()) (next, ())) fun r =>
          g0 r.1 r.2.1 (IntKind.i64.wrap (t + 1))
        else
          g0 S L (IntKind.i64.wrap (t + 1))
      else
        none
    else
      none
  else
    bif !List.isEmpty [i] && Nat.ble (L.length + [i].length) lim then
      some (S, L ++ [i], ())
    else
      none
def visit_p (l0 : List (List Int) → Int → List Bool → List Int → Int → Option VS) (next : List (List Int)) (i : Int) (S : List Bool) (L : List Int) : Option VS :=
  bif inb i S.length then
    bif inb i next.length then
      l0 next i (S.set i.toNat true) L 0
    else
      none
  else
    none
def visit_l0 (self : VF) (next : List (List Int)) (i : Int) : Nat → List Bool → List Int → Int → Option VS
  | 0, _, _, _ => none
  | fu + 1, S, L, t => visit_b0 self next i (visit_l0 self next i fu) S L t
def visit_f (nf : Nat) (self : VF) (next : List (List Int)) (i : Int) (S : List Bool) (L : List Int) : Option VS := visit_p (fun p0 p1 v0 v1 v2 => visit_l0 self p0 p1 nf v0 v1 v2) next i S L
def visit_L0 (nf : Nat) (self : VF) : LC VS := theL (findL (visit_tab self) visit_phi (fun _ F => iter nf F) visit_keep 0 0 (codeOf Try.f76) (finS visit_bxs visit_ros) (fun _ _ => none) (finS visit_bxs visit_ros))
def visit_m0 (next : List (List Int)) (i : Int) (S : List Bool) (L : List Int) (t : Int) : St := ⟨fresh, [(0, AV.v (.int .i64) (.bor false true) i), (1, AV.box 1 500001 (.sl .bool) (.own false (.bor false false)) S), (2, AV.rop (.sl (.sl (.int .i64))) (.bor true false) next), (4, AV.box 4 500004 (.sl (.int .i64)) (.own true (.bor false true)) L), (14, AV.v (.sl (.int .i64)) (.bor true false) (next.getD i.toNat [])), (15, AV.v (.int .i64) (.bor false true) ((next.getD i.toNat []).length : Int)), (16, AV.v (.int .i64) (.bor false true) t)]⟩
theorem visit_h0 (nf : Nat) (self : VF) (next : List (List Int)) (i : Int) (fu : Nat) (S : List Bool) (L : List Int) (t : Int) : iter (fu + 1) (LC.F (visit_tab self) visit_phi (fun _ F => iter nf F) visit_keep 0 (visit_L0 nf self)) (visit_m0 next i S L t) = visit_b0 self next i (fun S L t => iter fu (LC.F (visit_tab self) visit_phi (fun _ F => iter nf F) visit_keep 0 (visit_L0 nf self)) (visit_m0 next i S L t)) S L t := by kernel_rfl
theorem visit_e0 (nf : Nat) (self : VF) (next : List (List Int)) (i : Int) : ∀ (fu : Nat) (S : List Bool) (L : List Int) (t : Int), iter fu (LC.F (visit_tab self) visit_phi (fun _ F => iter nf F) visit_keep 0 (visit_L0 nf self)) (visit_m0 next i S L t) = visit_l0 self next i fu S L t := by
  intro fu
  induction fu with
  | zero => intros; rfl
  | succ fu ih =>
    intro S L t
    rw [visit_h0 nf self next i fu S L t]
    simp only [ih]
    rfl
theorem visit_eq (nf : Nat) (self : VF) (next : List (List Int)) (i : Int) (S : List Bool) (L : List Int) : runS (visit_tab self) visit_phi visit_keep nf visit_bxs visit_ros (codeOf Try.f76) [i] (S, L, ()) (next, ()) = visit_f nf self next i S L := by
  have h : runS (visit_tab self) visit_phi visit_keep nf visit_bxs visit_ros (codeOf Try.f76) [i] (S, L, ()) (next, ()) = visit_p (fun p0 p1 v0 v1 v2 => iter nf (LC.F (visit_tab self) visit_phi (fun _ F => iter nf F) visit_keep 0 (visit_L0 nf self)) (visit_m0 p0 p1 v0 v1 v2)) next i S L := by kernel_rfl
  rw [h]
  simp only [visit_e0]
  rfl
def visit_F : Nat → VF
  | 0, _, _, _ => none
  | nf + 1, az, x, z => match az with | [i] => visit_f nf (visit_F nf) z.1 i x.1 x.2.1 | _ => none

theorem visit_ok : FnOK Try.prog 76 := ⟨Try.f76, codeOf Try.f76, Try.func76, by kernel_rfl, by kernel_rfl⟩
theorem visit_text (self : VF) : SelfText Try.prog 76 1 5 3 (visit_C self) visit_ol visit_oc 82 visit_c where
  fn := visit_ok
  os := by kernel_rfl
  l1 := by kernel_rfl
  l2 := by kernel_rfl
  l3 := by kernel_rfl
  c1 := by kernel_rfl
  c2 := by kernel_rfl
  c3 := by kernel_rfl
  c4 := by kernel_rfl
  c5 := by kernel_rfl
  mid := by
    intro o ho
    have ho : o ∈ [visit_om] := ho
    rw [List.mem_singleton] at ho
    subst ho
    have h1 : visit_om.guard = none := by kernel_rfl
    have h2 : visit_om.dst = some 26 := by kernel_rfl
    exact ⟨h1, by rw [h2]; show some 26 ≠ some 25; decide⟩
  agg := fun w => by kernel_rfl
  k := rfl
  knp := by decide
  slots := by
    intro s hs
    have hs : s ∈ [1, 4] ∨ s ∈ [2] := hs
    simp only [List.mem_cons, List.not_mem_nil, or_false] at hs
    omega
  apart := by
    intro s hs
    have hs : s ∈ [2] := hs
    simp only [List.mem_cons, List.not_mem_nil, or_false] at hs
    subst hs
    show (2 : Nat) ∉ [1, 4]
    decide
  nd := by show (27 : Nat) ∉ [1, 4]; decide
  me1 := by decide
  me2 := by decide
  nl := by
    intro x hx
    have hx : x ∈ visit_bxs := hx
    simp only [visit_bxs, List.mem_cons, List.not_mem_nil, or_false] at hx
    rcases hx with rfl | rfl <;> rfl
  few := by decide
theorem visit_holds : ∀ nf : Nat, SelfHolds Try.prog 76 1 5 3 visit_bxs visit_ros (visit_F nf)
  | 0 => fun _ _ _ _ h => by cases h
  | nf + 1 => by
    have huniq : ∀ id C', (visit_tab (visit_F nf)).sc id = some C' → id = 5 ∧ C' = visit_C (visit_F nf) := fun id C' h => by
      have h : visit_sc (visit_F nf) id = some C' := h
      unfold visit_sc at h
      split at h
      · rename_i hb
        exact ⟨Nat.eq_of_beq_eq_true hb, (Option.some.inj h).symm⟩
      · cases h
    refine self_holds (T := visit_tab (visit_F nf)) (Φ := visit_phi) (fn := Try.f76) (keep := visit_keep) (n := nf) ⟨tabs.1, tabs.2, ctx_nil, mixed⟩ (visit_text (visit_F nf)) Try.func76 (by kernel_rfl) (by kernel_rfl) (by kernel_rfl)
      (codeS_one huniq _ (Nat.le_of_eq (show countR 5 (codeOf Try.f76) = 1 by kernel_rfl)) (by kernel_rfl) fun os ho => by show visit_os = os; unfold visit_os; rw [ho]) (fun id C' h => (huniq id C' h).2) (visit_holds nf) ?_
    intro az xs zs ys haz hy
    obtain ⟨S, L, _⟩ := xs
    obtain ⟨next, _⟩ := zs
    match az, haz with
    | [i], _ =>
      rw [← hy]
      exact visit_eq nf (visit_F nf) next i S L
end
end Go.Proofs.Ytccbcbhiblohgaa.S
