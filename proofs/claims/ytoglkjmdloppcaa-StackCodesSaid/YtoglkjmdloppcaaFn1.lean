/- The functions of the code, as plain functions, and the theorems that say so: made by a program of this proof's own. -/
import Derived.Test.YtoglkjmdloppcaaAbCheck
import Derived.Test.YtoglkjmdloppcaaChecked
namespace Go.Proofs.Ytoglkjmdloppcaa.S
open Go Go.Ab
noncomputable section
def bkl : List (Nat × Bk) := []
def tyL : List (Nat × Ty) := [(2, .int .i64), (3, .int .i64), (4, .bool), (5, .int .u8), (6, .int .u8), (7, .pair (.int .i64) (.pair (.int .i64) (.pair (.bool) (.pair (.int .u8) (.unit))))), (8, .pair (.int .i64) (.pair (.int .i64) (.pair (.bool) (.pair (.int .u8) (.unit))))), (12, .int .u64), (21, .int .i32), (22, .sl (.sl (.int .i64))), (23, .sl (.int .u32)), (24, .int .u32), (25, .pair (.bool) (.pair (.bool) (.pair (.sl (.int .u32)) (.pair (.sl (.int .u32)) (.pair (.int .u32) (.unit)))))), (26, .pair (.bool) (.pair (.bool) (.pair (.sl (.int .u32)) (.pair (.sl (.int .u32)) (.pair (.int .u32) (.unit)))))), (27, .int .i64), (34, .sl (.int .i64)), (40, .sl (.pair (.sl (.pair (.int .i64) (.pair (.sl (.int .i64)) (.unit)))) (.pair (.sl (.pair (.int .i64) (.pair (.int .i64) (.pair (.int .i64) (.pair (.int .i64) (.pair (.int .i64) (.unit))))))) (.pair (.int .i64) (.pair (.int .i64) (.pair (.int .i64) (.pair (.sl (.int .i64)) (.unit)))))))), (45, .sl (.pair (.int .i64) (.pair (.int .i64) (.pair (.int .i64) (.pair (.int .i64) (.unit)))))), (46, .sl (.pair (.int .i64) (.pair (.int .i64) (.unit)))), (59, .sl (.pair (.int .i64) (.pair (.int .i64) (.unit)))), (69, .int .u64), (70, .mp (.int .i64) (.pair (.int .i64) (.pair (.int .i64) (.unit)))), (74, .sl (.pair (.sl (.pair (.int .i64) (.pair (.int .i64) (.pair (.int .i64) (.pair (.int .i64) (.pair (.int .i64) (.unit))))))) (.pair (.int .i64) (.pair (.int .i64) (.pair (.int .i64) (.unit)))))), (77, .pair (.int .i64) (.pair (.int .i64) (.unit))), (80, .sl (.pair (.int .i64) (.pair (.sl (.int .i64)) (.unit)))), (81, .sl (.pair (.int .i64) (.pair (.int .i64) (.pair (.int .i64) (.pair (.int .i64) (.pair (.int .i64) (.unit))))))), (82, .pair (.sl (.pair (.int .i64) (.pair (.sl (.int .i64)) (.unit)))) (.pair (.sl (.pair (.int .i64) (.pair (.int .i64) (.pair (.int .i64) (.pair (.int .i64) (.pair (.int .i64) (.unit))))))) (.pair (.int .i64) (.pair (.int .i64) (.pair (.int .i64) (.pair (.sl (.int .i64)) (.unit))))))), (83, .pair (.sl (.pair (.int .i64) (.pair (.sl (.int .i64)) (.unit)))) (.pair (.sl (.pair (.int .i64) (.pair (.int .i64) (.pair (.int .i64) (.pair (.int .i64) (.pair (.int .i64) (.unit))))))) (.pair (.int .i64) (.pair (.int .i64) (.pair (.int .i64) (.pair (.sl (.int .i64)) (.unit))))))), (84, .pair (.int .i64) (.pair (.sl (.int .i64)) (.unit))), (85, .pair (.int .i64) (.pair (.sl (.int .i64)) (.unit))), (86, .pair (.int .i64) (.pair (.int .i64) (.pair (.int .i64) (.pair (.int .i64) (.pair (.int .i64) (.unit)))))), (87, .pair (.int .i64) (.pair (.int .i64) (.pair (.int .i64) (.pair (.int .i64) (.pair (.int .i64) (.unit)))))), (96, .pair (.int .i64) (.pair (.int .i64) (.pair (.int .i64) (.pair (.int .i64) (.unit))))), (97, .pair (.int .i64) (.pair (.int .i64) (.pair (.int .i64) (.pair (.int .i64) (.unit))))), (98, .pair (.int .i64) (.pair (.int .i64) (.unit))), (99, .pair (.int .i64) (.pair (.int .i64) (.unit))), (103, .mp (.int .u32) (.int .i64)), (108, .mp (.int .u32) (.bool)), (117, .pair (.sl (.pair (.int .i64) (.pair (.int .i64) (.pair (.int .i64) (.pair (.int .i64) (.pair (.int .i64) (.unit))))))) (.pair (.int .i64) (.pair (.int .i64) (.pair (.int .i64) (.unit))))), (118, .pair (.sl (.pair (.int .i64) (.pair (.int .i64) (.pair (.int .i64) (.pair (.int .i64) (.pair (.int .i64) (.unit))))))) (.pair (.int .i64) (.pair (.int .i64) (.pair (.int .i64) (.unit))))), (125, .sl (.sl (.int .u32))), (136, .int .u8), (137, .int .u8), (140, .int .i32), (141, .int .i32)]
def mdL : List (Nat × Md) := [(2, .bor false true), (3, .bor false true), (4, .bor false true), (5, .bor false true), (6, .bor false true), (7, .bor false true), (8, .bor false true), (12, .bor false true), (21, .bor false true), (22, .own false (.bor false false)), (23, .own false (.bor false false)), (24, .bor false true), (25, .bor true false), (26, .bor true false), (27, .bor false true), (34, .own false (.bor false false)), (40, .own false (.bor false false)), (45, .own false (.bor false false)), (46, .own false (.bor false false)), (59, .own false (.bor false false)), (69, .bor false true), (70, .own false (.bor false false)), (74, .own false (.bor false false)), (77, .bor false true), (80, .own false (.bor false false)), (81, .own false (.bor false false)), (82, .bor true false), (83, .bor true false), (84, .bor true false), (85, .bor true false), (86, .bor false true), (87, .bor false true), (96, .bor false true), (97, .bor false true), (98, .bor false true), (99, .bor false true), (103, .own false (.bor false false)), (108, .own false (.bor false false)), (117, .bor true false), (118, .bor true false), (125, .own false (.bor false false)), (136, .bor false true), (137, .bor false true), (140, .bor false true), (141, .bor false true)]
def tab : Tab := ⟨lookT tyL, lookM mdL, hasT [77, 132], hasT [9, 10, 11], fun _ => none, lookB bkl⟩
theorem bkls : BkL Try.prog bkl := fun _ h => by cases h
theorem tabs : TabOK Try.prog tab ∧ EqOK Try.prog tab := tab_ok (by kernel_rfl) (by kernel_rfl)
theorem mixed : Try.prog.follows .mixedOrders = true := by kernel_rfl
abbrev mR1 : Md := (Md.bor true false)
abbrev iT1 : Ty := (Ty.int IntKind.i64)
abbrev TZ01 : Type := (Int × Int × Int × Int × Unit)
abbrev tZ11 : Ty := ((Ty.int IntKind.i64).pair ((Ty.int IntKind.i64).pair ((Ty.int IntKind.i64).pair ((Ty.int IntKind.i64).pair Ty.unit))))
abbrev vI1 := AV.v (Ty.int IntKind.i64) (Md.bor false true)

/-! codemason term.Check -/
abbrev q10P : List PT := [.val (.int .i64) (.bor true false), .val (.sl (.pair (.int .i64) (.pair (.int .i64) (.pair (.int .i64) (.pair (.int .i64) (.unit)))))) (.bor true false)]
abbrev q10R : List (Ty × Md) := [(.int .i64, .bor false true)]
def term_Check_phi (_ : Nat) : Nat → Option Contract := lookC []
def term_Check_keep : Nat → List Nat := lookK [(0, [0, 1, 23, 24, 25])]
def term_Check_b0 (_ : Nat) (vars : Int) (l' : List TZ01) (g0 : Int → Option (Int × Unit)) (t25 : Int) : Option (Int × Unit) :=
 bif decide (t25 < (l'.length : Int)) then
  bif inb t25 l'.length then
   bif decide ((l'.getD t25.toNat (0, 0, 0, 0, ())).1 < 1) then
    some ((6, ()))
   else
    bif decide ((l'.getD t25.toNat (0, 0, 0, 0, ())).1 > 6) then
     some ((6, ()))
    else
     bif (l'.getD t25.toNat (0, 0, 0, 0, ())).1 == 1 then
      bif decide ((l'.getD t25.toNat (0, 0, 0, 0, ())).2.2.2.1 < 0) then
       some ((4, ()))
      else
       bif decide ((l'.getD t25.toNat (0, 0, 0, 0, ())).2.2.2.1 > 255) then
        some ((4, ()))
       else
        bif (l'.getD t25.toNat (0, 0, 0, 0, ())).1 == 2 then
         bif decide ((l'.getD t25.toNat (0, 0, 0, 0, ())).2.2.2.1 < 0) then
          some ((4, ()))
         else
          bif decide ((l'.getD t25.toNat (0, 0, 0, 0, ())).2.2.2.1 ≥ vars) then
           some ((4, ()))
          else
           bif decide ((l'.getD t25.toNat (0, 0, 0, 0, ())).1 > 2) then
            bif decide ((if (l'.getD t25.toNat (0, 0, 0, 0, ())).2.2.1 < (l'.getD t25.toNat (0, 0, 0, 0, ())).2.1 then (l'.getD t25.toNat (0, 0, 0, 0, ())).2.2.1 else (l'.getD t25.toNat (0, 0, 0, 0, ())).2.1) < 0) then
             some ((2, ()))
            else
             bif decide ((if (l'.getD t25.toNat (0, 0, 0, 0, ())).2.2.1 > (l'.getD t25.toNat (0, 0, 0, 0, ())).2.1 then (l'.getD t25.toNat (0, 0, 0, 0, ())).2.2.1 else (l'.getD t25.toNat (0, 0, 0, 0, ())).2.1) ≥ t25) then
              some ((2, ()))
             else
              g0 (IntKind.i64.wrap (t25 + 1))
           else
            g0 (IntKind.i64.wrap (t25 + 1))
        else
         bif decide ((l'.getD t25.toNat (0, 0, 0, 0, ())).1 > 2) then
          bif decide ((if (l'.getD t25.toNat (0, 0, 0, 0, ())).2.2.1 < (l'.getD t25.toNat (0, 0, 0, 0, ())).2.1 then (l'.getD t25.toNat (0, 0, 0, 0, ())).2.2.1 else (l'.getD t25.toNat (0, 0, 0, 0, ())).2.1) < 0) then
           some ((2, ()))
          else
           bif decide ((if (l'.getD t25.toNat (0, 0, 0, 0, ())).2.2.1 > (l'.getD t25.toNat (0, 0, 0, 0, ())).2.1 then (l'.getD t25.toNat (0, 0, 0, 0, ())).2.2.1 else (l'.getD t25.toNat (0, 0, 0, 0, ())).2.1) ≥ t25) then
            some ((2, ()))
           else
            g0 (IntKind.i64.wrap (t25 + 1))
         else
          g0 (IntKind.i64.wrap (t25 + 1))
     else
      bif (l'.getD t25.toNat (0, 0, 0, 0, ())).1 == 2 then
       bif decide ((l'.getD t25.toNat (0, 0, 0, 0, ())).2.2.2.1 < 0) then
        some ((4, ()))
       else
        bif decide ((l'.getD t25.toNat (0, 0, 0, 0, ())).2.2.2.1 ≥ vars) then
         some ((4, ()))
        else
         bif decide ((l'.getD t25.toNat (0, 0, 0, 0, ())).1 > 2) then
          bif decide ((if (l'.getD t25.toNat (0, 0, 0, 0, ())).2.2.1 < (l'.getD t25.toNat (0, 0, 0, 0, ())).2.1 then (l'.getD t25.toNat (0, 0, 0, 0, ())).2.2.1 else (l'.getD t25.toNat (0, 0, 0, 0, ())).2.1) < 0) then
           some ((2, ()))
          else
           bif decide ((if (l'.getD t25.toNat (0, 0, 0, 0, ())).2.2.1 > (l'.getD t25.toNat (0, 0, 0, 0, ())).2.1 then (l'.getD t25.toNat (0, 0, 0, 0, ())).2.2.1 else (l'.getD t25.toNat (0, 0, 0, 0, ())).2.1) ≥ t25) then
            some ((2, ()))
           else
            g0 (IntKind.i64.wrap (t25 + 1))
         else
          g0 (IntKind.i64.wrap (t25 + 1))
      else
       bif decide ((l'.getD t25.toNat (0, 0, 0, 0, ())).1 > 2) then
        bif decide ((if (l'.getD t25.toNat (0, 0, 0, 0, ())).2.2.1 < (l'.getD t25.toNat (0, 0, 0, 0, ())).2.1 then (l'.getD t25.toNat (0, 0, 0, 0, ())).2.2.1 else (l'.getD t25.toNat (0, 0, 0, 0, ())).2.1) < 0) then
         some ((2, ()))
        else
         bif decide ((if (l'.getD t25.toNat (0, 0, 0, 0, ())).2.2.1 > (l'.getD t25.toNat (0, 0, 0, 0, ())).2.1 then (l'.getD t25.toNat (0, 0, 0, 0, ())).2.2.1 else (l'.getD t25.toNat (0, 0, 0, 0, ())).2.1) ≥ t25) then
          some ((2, ()))
         else
          g0 (IntKind.i64.wrap (t25 + 1))
       else
        g0 (IntKind.i64.wrap (t25 + 1))
  else
   none
 else
  some ((0, ()))
def term_Check_p (_ : Nat) (l0 : Int → List TZ01 → Int → Option (Int × Unit)) (vars : Int) (l' : List TZ01) : Option (Int × Unit) :=
 bif decide (vars < 0) then
  some ((1, ()))
 else
  bif decide (vars > 6) then
   some ((1, ()))
  else
   bif (l'.length : Int) == 0 then
    some ((1, ()))
   else
    bif decide ((l'.length : Int) > 16) then
     some ((1, ()))
    else
     l0 vars l' 0
def term_Check_l0 (nf : Nat) (vars : Int) (l' : List TZ01) : Nat → Int → Option (Int × Unit)
 | 0, _ => none
 | fu + 1, t25 => term_Check_b0 nf vars l' (term_Check_l0 nf vars l' fu) t25
def term_Check_f (nf : Nat) (vars : Int) (l' : List TZ01) : Option (Int × Unit) := term_Check_p nf (fun p0 p1 v0 => term_Check_l0 nf p0 p1 nf v0) vars l'
def q10I (nf b : Nat) (L : LC (Int × Unit)) := LC.F tab (term_Check_phi nf) (fun _ F => iter nf F) term_Check_keep b L
def q10L0 (nf : Nat) : LC (Int × Unit) := theL (findL tab (term_Check_phi nf) (fun _ F => iter nf F) term_Check_keep 0 0 (codeOf Try.f90) (fin tab q10R (resL ([]) Try.f90)) (fun _ _ => none) (fin tab q10R (resL ([]) Try.f90)))
def q10m0 (vars : Int) (l' : List TZ01) (t25 : Int) : St := ⟨fresh, [(0, vI1 vars), (1, AV.v tZ11.sl mR1 l'), (23, AV.v tZ11.sl mR1 l'), (24, vI1 (l'.length : Int)), (25, vI1 t25)]⟩
theorem q10h0 (nf : Nat) (vars : Int) (l' : List TZ01) (fu : Nat) (t25 : Int) : iter (fu + 1) (q10I nf 0 (q10L0 nf)) (q10m0 vars l' t25) = term_Check_b0 nf vars l' (fun t25 => iter fu (q10I nf 0 (q10L0 nf)) (q10m0 vars l' t25)) t25 := by kernel_rfl
theorem q10e0 (nf : Nat) (vars : Int) (l' : List TZ01) : ∀ (fu : Nat) (t25 : Int), iter fu (q10I nf 0 (q10L0 nf)) (q10m0 vars l' t25) = term_Check_l0 nf vars l' fu t25 := by
 intro fu
 induction fu with
 | zero => intros; rfl
 | succ fu ih =>
  intro t25
  rw [q10h0 nf vars l' fu t25]
  simp only [ih]
  rfl
theorem term_Check_eq (nf : Nat) (vars : Int) (l' : List TZ01) : runF tab (term_Check_phi nf) term_Check_keep nf q10P q10R (resL ([]) Try.f90) (codeOf Try.f90) ⟨vars, l', ()⟩ = term_Check_f nf vars l' := by
 refine Eq.trans (b := term_Check_p nf (fun p0 p1 v0 => iter nf (q10I nf 0 (q10L0 nf)) (q10m0 p0 p1 v0)) vars l') (by kernel_rfl) ?_
 simp only [q10e0]
 rfl
def term_Check_F (nf : Nat) (x : denPs q10P) : Option (denL q10R) := term_Check_f nf x.1 x.2.1
def term_Check_C (nf : Nat) : Contract := ⟨q10P, q10R, term_Check_F nf, []⟩
theorem term_Check_ok : FnOK Try.prog 90 := ⟨Try.f90, codeOf Try.f90, Try.func90, by kernel_rfl, by kernel_rfl⟩
theorem term_Check_holds (nf : Nat) : Contract.Holds Try.prog 90 (term_Check_C nf) :=
 fn_holds (Φ := term_Check_phi nf) (keep := term_Check_keep) (n := nf) ⟨tabs.1, tabs.2, ctx_nil, mixed, bk_ok bkls rfl⟩ (fn := Try.f90) ⟨Try.func90, by kernel_rfl, by kernel_rfl, by kernel_rfl⟩ (fun x => term_Check_eq nf x.1 x.2.1)

/-! codemason need.tree -/
abbrev q11P : List PT := [.val (.sl (.pair (.int .i64) (.pair (.int .i64) (.pair (.int .i64) (.pair (.int .i64) (.unit)))))) (.bor true false)]
abbrev q11R : List (Ty × Md) := [(.bool, .bor false true)]
def need_tree_phi (_ : Nat) : Nat → Option Contract := lookC []
def need_tree_keep : Nat → List Nat := lookK [(2, [0, 3, 10, 35, 36, 37]), (0, [0, 3, 10, 11, 12, 13])]
def need_tree_b0 (_ : Nat) (l2 : List TZ01 → List Int → List Int → Int → Option (Bool × Unit)) (l' : List TZ01) (g0 : List Int → Int → Option (Bool × Unit)) (often : List Int) (t13 : Int) : Option (Bool × Unit) :=
 bif decide (t13 < (l'.length : Int)) then
  bif inb t13 l'.length then
   bif decide ((l'.getD t13.toNat (0, 0, 0, 0, ())).1 > 2) then
    bif inb (l'.getD t13.toNat (0, 0, 0, 0, ())).2.1 often.length then
     bif inb (l'.getD t13.toNat (0, 0, 0, 0, ())).2.1 often.length then
      bif inb (l'.getD t13.toNat (0, 0, 0, 0, ())).2.2.1 (often.set (Int.toNat (l'.getD t13.toNat (0, 0, 0, 0, ())).2.1) (IntKind.i64.wrap (often.getD (Int.toNat (l'.getD t13.toNat (0, 0, 0, 0, ())).2.1) 0 + 1))).length then
       bif inb (l'.getD t13.toNat (0, 0, 0, 0, ())).2.2.1 (often.set (Int.toNat (l'.getD t13.toNat (0, 0, 0, 0, ())).2.1) (IntKind.i64.wrap (often.getD (Int.toNat (l'.getD t13.toNat (0, 0, 0, 0, ())).2.1) 0 + 1))).length then
        g0 ((often.set (Int.toNat (l'.getD t13.toNat (0, 0, 0, 0, ())).2.1) (IntKind.i64.wrap (often.getD (Int.toNat (l'.getD t13.toNat (0, 0, 0, 0, ())).2.1) 0 + 1))).set (Int.toNat (l'.getD t13.toNat (0, 0, 0, 0, ())).2.2.1) (IntKind.i64.wrap ((often.set (Int.toNat (l'.getD t13.toNat (0, 0, 0, 0, ())).2.1) (IntKind.i64.wrap (often.getD (Int.toNat (l'.getD t13.toNat (0, 0, 0, 0, ())).2.1) 0 + 1))).getD (Int.toNat (l'.getD t13.toNat (0, 0, 0, 0, ())).2.2.1) 0 + 1))) (IntKind.i64.wrap (t13 + 1))
       else
        none
      else
       none
     else
      none
    else
     none
   else
    g0 often (IntKind.i64.wrap (t13 + 1))
  else
   none
 else
  l2 l' often often 0
def need_tree_b2 (_ : Nat) (l' : List TZ01) (often : List Int) (g2 : List Int → Int → Option (Bool × Unit)) (often2 : List Int) (t37 : Int) : Option (Bool × Unit) :=
 bif decide (t37 < (often.length : Int)) then
  bif inb t37 often2.length then
   bif (often2.getD t37.toNat 0 != 1) == decide (t37 < IntKind.i64.wrap ((l'.length : Int) - 1)) then
    some ((false, ()))
   else
    g2 often2 (IntKind.i64.wrap (t37 + 1))
  else
   none
 else
  some ((true, ()))
def need_tree_p (_ : Nat) (l0 : List TZ01 → List Int → Int → Option (Bool × Unit)) (l' : List TZ01) : Option (Bool × Unit) :=
 bif decide (0 ≤ (l'.length : Int)) && decide ((l'.length : Int) ≤ (l'.length : Int)) && decide ((l'.length : Int) ≤ (lim : Int)) then
  l0 l' (List.replicate (l'.length : Int).toNat 0) 0
 else
  none
def need_tree_l2 (nf : Nat) (l' : List TZ01) (often : List Int) : Nat → List Int → Int → Option (Bool × Unit)
 | 0, _, _ => none
 | fu + 1, often2, t37 => need_tree_b2 nf l' often (need_tree_l2 nf l' often fu) often2 t37
def need_tree_l0 (nf : Nat) (l' : List TZ01) : Nat → List Int → Int → Option (Bool × Unit)
 | 0, _, _ => none
 | fu + 1, often, t13 => need_tree_b0 nf (fun _ p1 v0 v1 => need_tree_l2 nf l' p1 nf v0 v1) l' (need_tree_l0 nf l' fu) often t13
def need_tree_f (nf : Nat) (l' : List TZ01) : Option (Bool × Unit) := need_tree_p nf (fun p0 v0 v1 => need_tree_l0 nf p0 nf v0 v1) l'
def q11I (nf b : Nat) (L : LC (Bool × Unit)) := LC.F tab (need_tree_phi nf) (fun _ F => iter nf F) need_tree_keep b L
def q11L0 (nf : Nat) : LC (Bool × Unit) := theL (findL tab (need_tree_phi nf) (fun _ F => iter nf F) need_tree_keep 0 0 (codeOf Try.f91) (fin tab q11R (resL ([]) Try.f91)) (fun _ _ => none) (fin tab q11R (resL ([]) Try.f91)))
def q11m0 (l' : List TZ01) (often : List Int) (t13 : Int) : St := ⟨fresh, [(0, AV.v tZ11.sl mR1 l'), (3, AV.ow 500003 iT1.sl (Md.own false (Md.bor false false)) often), (10, AV.dead), (11, AV.v tZ11.sl mR1 l'), (12, vI1 (l'.length : Int)), (13, vI1 t13)]⟩
def q11L2 (nf : Nat) : LC (Bool × Unit) := theL (findL tab (need_tree_phi nf) (fun _ F => iter nf F) need_tree_keep 2 0 (codeOf Try.f91) (fin tab q11R (resL ([]) Try.f91)) (fun _ _ => none) (fin tab q11R (resL ([]) Try.f91)))
def q11m2 (l' : List TZ01) (often often2 : List Int) (t37 : Int) : St := ⟨fresh, [(0, AV.v tZ11.sl mR1 l'), (3, AV.ow 500003 iT1.sl (Md.own false (Md.bor false false)) often2), (10, AV.dead), (35, AV.al 3 500003 []), (36, vI1 (often.length : Int)), (37, vI1 t37)]⟩
theorem q11h2 (nf : Nat) (l' : List TZ01) (often : List Int) (fu : Nat) (often2 : List Int) (t37 : Int) : iter (fu + 1) (q11I nf 2 (q11L2 nf)) (q11m2 l' often often2 t37) = need_tree_b2 nf l' often (fun often2 t37 => iter fu (q11I nf 2 (q11L2 nf)) (q11m2 l' often often2 t37)) often2 t37 := by kernel_rfl
theorem q11e2 (nf : Nat) (l' : List TZ01) (often : List Int) : ∀ (fu : Nat) (often2 : List Int) (t37 : Int), iter fu (q11I nf 2 (q11L2 nf)) (q11m2 l' often often2 t37) = need_tree_l2 nf l' often fu often2 t37 := by
 intro fu
 induction fu with
 | zero => intros; rfl
 | succ fu ih =>
  intro often2 t37
  rw [q11h2 nf l' often fu often2 t37]
  simp only [ih]
  rfl
theorem q11h0 (nf : Nat) (l' : List TZ01) (fu : Nat) (often : List Int) (t13 : Int) : iter (fu + 1) (q11I nf 0 (q11L0 nf)) (q11m0 l' often t13) = need_tree_b0 nf (fun _ p1 v0 v1 => iter nf (q11I nf 2 (q11L2 nf)) (q11m2 l' p1 v0 v1)) l' (fun often t13 => iter fu (q11I nf 0 (q11L0 nf)) (q11m0 l' often t13)) often t13 := by kernel_rfl
theorem q11e0 (nf : Nat) (l' : List TZ01) : ∀ (fu : Nat) (often : List Int) (t13 : Int), iter fu (q11I nf 0 (q11L0 nf)) (q11m0 l' often t13) = need_tree_l0 nf l' fu often t13 := by
 intro fu
 induction fu with
 | zero => intros; rfl
 | succ fu ih =>
  intro often t13
  rw [q11h0 nf l' fu often t13]
  simp only [ih, q11e2]
  rfl
theorem need_tree_eq (nf : Nat) (l' : List TZ01) : runF tab (need_tree_phi nf) need_tree_keep nf q11P q11R (resL ([]) Try.f91) (codeOf Try.f91) ⟨l', ()⟩ = need_tree_f nf l' := by
 refine Eq.trans (b := need_tree_p nf (fun p0 v0 v1 => iter nf (q11I nf 0 (q11L0 nf)) (q11m0 p0 v0 v1)) l') (by kernel_rfl) ?_
 simp only [q11e0]
 rfl
def need_tree_F (nf : Nat) (x : denPs q11P) : Option (denL q11R) := need_tree_f nf x.1
def need_tree_C (nf : Nat) : Contract := ⟨q11P, q11R, need_tree_F nf, []⟩
theorem need_tree_ok : FnOK Try.prog 91 := ⟨Try.f91, codeOf Try.f91, Try.func91, by kernel_rfl, by kernel_rfl⟩
theorem need_tree_holds (nf : Nat) : Contract.Holds Try.prog 91 (need_tree_C nf) :=
 fn_holds (Φ := need_tree_phi nf) (keep := need_tree_keep) (n := nf) ⟨tabs.1, tabs.2, ctx_nil, mixed, bk_ok bkls rfl⟩ (fn := Try.f91) ⟨Try.func91, by kernel_rfl, by kernel_rfl, by kernel_rfl⟩ (fun x => need_tree_eq nf x.1)

/-! codemason need.wrong -/
abbrev q12P : List PT := [.val (.int .i64) (.bor true false), .val (.sl (.pair (.int .i64) (.pair (.int .i64) (.pair (.int .i64) (.pair (.int .i64) (.unit)))))) (.bor true false)]
abbrev q12R : List (Ty × Md) := [(.int .i64, .bor false true)]
def need_wrong_phi (nf : Nat) : Nat → Option Contract := lookC [(90, term_Check_C nf), (91, need_tree_C nf)]
def need_wrong_keep : Nat → List Nat := lookK []
def need_wrong_p (nf : Nat) (vars : Int) (l' : List TZ01) : Option (Int × Unit) :=
 Option.bind (term_Check_f nf vars l') fun r =>
 bif r.1 != 0 then
  some ((r.1, ()))
 else
  Option.bind (need_tree_f nf l') fun r2 =>
  bif !r2.1 then
   some ((3, ()))
  else
   some ((0, ()))
def need_wrong_f (nf : Nat) (vars : Int) (l' : List TZ01) : Option (Int × Unit) := need_wrong_p nf vars l'
theorem need_wrong_eq (nf : Nat) (vars : Int) (l' : List TZ01) : runF tab (need_wrong_phi nf) need_wrong_keep nf q12P q12R (resL ([]) Try.f81) (codeOf Try.f81) ⟨vars, l', ()⟩ = need_wrong_f nf vars l' := by kernel_rfl
def need_wrong_F (nf : Nat) (x : denPs q12P) : Option (denL q12R) := need_wrong_f nf x.1 x.2.1
def need_wrong_C (nf : Nat) : Contract := ⟨q12P, q12R, need_wrong_F nf, []⟩
theorem need_wrong_ok : FnOK Try.prog 81 := ⟨Try.f81, codeOf Try.f81, Try.func81, by kernel_rfl, by kernel_rfl⟩
theorem need_wrong_holds (nf : Nat) : Contract.Holds Try.prog 81 (need_wrong_C nf) :=
 fn_holds (Φ := need_wrong_phi nf) (keep := need_wrong_keep) (n := nf) ⟨tabs.1, tabs.2, (ctx_cons term_Check_ok (term_Check_holds nf) (ctx_cons need_tree_ok (need_tree_holds nf) ctx_nil)), mixed, bk_ok bkls rfl⟩ (fn := Try.f81) ⟨Try.func81, by kernel_rfl, by kernel_rfl, by kernel_rfl⟩ (fun x => need_wrong_eq nf x.1 x.2.1)

/-! codemason need.needs -/
abbrev q13P : List PT := [.val (.sl (.pair (.int .i64) (.pair (.int .i64) (.pair (.int .i64) (.pair (.int .i64) (.unit)))))) (.bor true false)]
abbrev q13R : List (Ty × Md) := [(.sl (.int .i64), .own false (.bor false false))]
def need_needs_phi (_ : Nat) : Nat → Option Contract := lookC []
def need_needs_keep : Nat → List Nat := lookK [(0, [0, 3, 9, 10, 11])]
def need_needs_b0 (_ : Nat) (l' : List TZ01) (g0 : List Int → Int → Option (List Int × Unit)) (out : List Int) (t11 : Int) : Option (List Int × Unit) :=
 bif decide (t11 < (l'.length : Int)) then
  bif inb t11 l'.length then
   bif decide ((l'.getD t11.toNat (0, 0, 0, 0, ())).1 > 2) then
    bif inb (l'.getD t11.toNat (0, 0, 0, 0, ())).2.1 out.length then
     bif inb (l'.getD t11.toNat (0, 0, 0, 0, ())).2.2.1 out.length then
      bif out.getD (Int.toNat (l'.getD t11.toNat (0, 0, 0, 0, ())).2.1) 0 == out.getD (Int.toNat (l'.getD t11.toNat (0, 0, 0, 0, ())).2.2.1) 0 then
       bif bimp false ![IntKind.i64.wrap ((if out.getD (Int.toNat (l'.getD t11.toNat (0, 0, 0, 0, ())).2.2.1) 0 > out.getD (Int.toNat (l'.getD t11.toNat (0, 0, 0, 0, ())).2.1) 0 then out.getD (Int.toNat (l'.getD t11.toNat (0, 0, 0, 0, ())).2.2.1) 0 else out.getD (Int.toNat (l'.getD t11.toNat (0, 0, 0, 0, ())).2.1) 0) + 1)].isEmpty && (out.length + [IntKind.i64.wrap ((if out.getD (Int.toNat (l'.getD t11.toNat (0, 0, 0, 0, ())).2.2.1) 0 > out.getD (Int.toNat (l'.getD t11.toNat (0, 0, 0, 0, ())).2.1) 0 then out.getD (Int.toNat (l'.getD t11.toNat (0, 0, 0, 0, ())).2.2.1) 0 else out.getD (Int.toNat (l'.getD t11.toNat (0, 0, 0, 0, ())).2.1) 0) + 1)].length).ble lim then
        g0 (out ++ [IntKind.i64.wrap ((if out.getD (Int.toNat (l'.getD t11.toNat (0, 0, 0, 0, ())).2.2.1) 0 > out.getD (Int.toNat (l'.getD t11.toNat (0, 0, 0, 0, ())).2.1) 0 then out.getD (Int.toNat (l'.getD t11.toNat (0, 0, 0, 0, ())).2.2.1) 0 else out.getD (Int.toNat (l'.getD t11.toNat (0, 0, 0, 0, ())).2.1) 0) + 1)]) (IntKind.i64.wrap (t11 + 1))
       else
        none
      else
       bif bimp false ![if out.getD (Int.toNat (l'.getD t11.toNat (0, 0, 0, 0, ())).2.2.1) 0 > out.getD (Int.toNat (l'.getD t11.toNat (0, 0, 0, 0, ())).2.1) 0 then out.getD (Int.toNat (l'.getD t11.toNat (0, 0, 0, 0, ())).2.2.1) 0 else out.getD (Int.toNat (l'.getD t11.toNat (0, 0, 0, 0, ())).2.1) 0].isEmpty && (out.length + [if out.getD (Int.toNat (l'.getD t11.toNat (0, 0, 0, 0, ())).2.2.1) 0 > out.getD (Int.toNat (l'.getD t11.toNat (0, 0, 0, 0, ())).2.1) 0 then out.getD (Int.toNat (l'.getD t11.toNat (0, 0, 0, 0, ())).2.2.1) 0 else out.getD (Int.toNat (l'.getD t11.toNat (0, 0, 0, 0, ())).2.1) 0].length).ble lim then
        g0 (out ++ [if out.getD (Int.toNat (l'.getD t11.toNat (0, 0, 0, 0, ())).2.2.1) 0 > out.getD (Int.toNat (l'.getD t11.toNat (0, 0, 0, 0, ())).2.1) 0 then out.getD (Int.toNat (l'.getD t11.toNat (0, 0, 0, 0, ())).2.2.1) 0 else out.getD (Int.toNat (l'.getD t11.toNat (0, 0, 0, 0, ())).2.1) 0]) (IntKind.i64.wrap (t11 + 1))
       else
        none
     else
      none
    else
     none
   else
    bif bimp false ![1].isEmpty && (out.length + [1].length).ble lim then
     g0 (out ++ [1]) (IntKind.i64.wrap (t11 + 1))
    else
     none
  else
   none
 else
  some ((out, ()))
def need_needs_p (_ : Nat) (l0 : List TZ01 → List Int → Int → Option (List Int × Unit)) (l' : List TZ01) : Option (List Int × Unit) :=
 l0 l' [] 0
def need_needs_l0 (nf : Nat) (l' : List TZ01) : Nat → List Int → Int → Option (List Int × Unit)
 | 0, _, _ => none
 | fu + 1, out, t11 => need_needs_b0 nf l' (need_needs_l0 nf l' fu) out t11
def need_needs_f (nf : Nat) (l' : List TZ01) : Option (List Int × Unit) := need_needs_p nf (fun p0 v0 v1 => need_needs_l0 nf p0 nf v0 v1) l'
def q13I (nf b : Nat) (L : LC (List Int × Unit)) := LC.F tab (need_needs_phi nf) (fun _ F => iter nf F) need_needs_keep b L
def q13L0 (nf : Nat) : LC (List Int × Unit) := theL (findL tab (need_needs_phi nf) (fun _ F => iter nf F) need_needs_keep 0 0 (codeOf Try.f82) (fin tab q13R (resL ([]) Try.f82)) (fun _ _ => none) (fin tab q13R (resL ([]) Try.f82)))
def q13m0 (l' : List TZ01) (out : List Int) (t11 : Int) : St := ⟨fresh, [(0, AV.v tZ11.sl mR1 l'), (3, AV.ow 500003 iT1.sl (Md.own false (Md.bor false false)) out), (9, AV.v tZ11.sl mR1 l'), (10, vI1 (l'.length : Int)), (11, vI1 t11)]⟩
theorem q13h0 (nf : Nat) (l' : List TZ01) (fu : Nat) (out : List Int) (t11 : Int) : iter (fu + 1) (q13I nf 0 (q13L0 nf)) (q13m0 l' out t11) = need_needs_b0 nf l' (fun out t11 => iter fu (q13I nf 0 (q13L0 nf)) (q13m0 l' out t11)) out t11 := by kernel_rfl
theorem q13e0 (nf : Nat) (l' : List TZ01) : ∀ (fu : Nat) (out : List Int) (t11 : Int), iter fu (q13I nf 0 (q13L0 nf)) (q13m0 l' out t11) = need_needs_l0 nf l' fu out t11 := by
 intro fu
 induction fu with
 | zero => intros; rfl
 | succ fu ih =>
  intro out t11
  rw [q13h0 nf l' fu out t11]
  simp only [ih]
  rfl
theorem need_needs_eq (nf : Nat) (l' : List TZ01) : runF tab (need_needs_phi nf) need_needs_keep nf q13P q13R (resL ([]) Try.f82) (codeOf Try.f82) ⟨l', ()⟩ = need_needs_f nf l' := by
 refine Eq.trans (b := need_needs_p nf (fun p0 v0 v1 => iter nf (q13I nf 0 (q13L0 nf)) (q13m0 p0 v0 v1)) l') (by kernel_rfl) ?_
 simp only [q13e0]
 rfl
def need_needs_F (nf : Nat) (x : denPs q13P) : Option (denL q13R) := need_needs_f nf x.1
def need_needs_C (nf : Nat) : Contract := ⟨q13P, q13R, need_needs_F nf, []⟩
theorem need_needs_ok : FnOK Try.prog 82 := ⟨Try.f82, codeOf Try.f82, Try.func82, by kernel_rfl, by kernel_rfl⟩
theorem need_needs_holds (nf : Nat) : Contract.Holds Try.prog 82 (need_needs_C nf) :=
 fn_holds (Φ := need_needs_phi nf) (keep := need_needs_keep) (n := nf) ⟨tabs.1, tabs.2, ctx_nil, mixed, bk_ok bkls rfl⟩ (fn := Try.f82) ⟨Try.func82, by kernel_rfl, by kernel_rfl, by kernel_rfl⟩ (fun x => need_needs_eq nf x.1)

/-! codemason need.Need -/
abbrev q14P : List PT := [.val (.int .i64) (.bor true false), .val (.sl (.pair (.int .i64) (.pair (.int .i64) (.pair (.int .i64) (.pair (.int .i64) (.unit)))))) (.bor true false)]
abbrev q14R : List (Ty × Md) := [(.int .i64, .bor false true), (.int .i64, .bor false true)]
def need_Need_phi (nf : Nat) : Nat → Option Contract := lookC [(81, need_wrong_C nf), (82, need_needs_C nf)]
def need_Need_keep : Nat → List Nat := lookK []
def need_Need_p (nf : Nat) (vars : Int) (l' : List TZ01) : Option (Int × Int × Unit) :=
 Option.bind (need_wrong_f nf vars l') fun r =>
 bif r.1 != 0 then
  some ((0, r.1, ()))
 else
  Option.bind (need_needs_f nf l') fun r2 =>
  bif inb (IntKind.i64.wrap ((l'.length : Int) - 1)) (List.length r2.1) then
   some ((List.getD r2.1 (IntKind.i64.wrap ((l'.length : Int) - 1)).toNat 0, 0, ()))
  else
   none
def need_Need_f (nf : Nat) (vars : Int) (l' : List TZ01) : Option (Int × Int × Unit) := need_Need_p nf vars l'
theorem need_Need_eq (nf : Nat) (vars : Int) (l' : List TZ01) : runF tab (need_Need_phi nf) need_Need_keep nf q14P q14R (resL ([]) Try.f56) (codeOf Try.f56) ⟨vars, l', ()⟩ = need_Need_f nf vars l' := by kernel_rfl
def need_Need_F (nf : Nat) (x : denPs q14P) : Option (denL q14R) := need_Need_f nf x.1 x.2.1
def need_Need_C (nf : Nat) : Contract := ⟨q14P, q14R, need_Need_F nf, []⟩
theorem need_Need_ok : FnOK Try.prog 56 := ⟨Try.f56, codeOf Try.f56, Try.func56, by kernel_rfl, by kernel_rfl⟩
theorem need_Need_holds (nf : Nat) : Contract.Holds Try.prog 56 (need_Need_C nf) :=
 fn_holds (Φ := need_Need_phi nf) (keep := need_Need_keep) (n := nf) ⟨tabs.1, tabs.2, (ctx_cons need_wrong_ok (need_wrong_holds nf) (ctx_cons need_needs_ok (need_needs_holds nf) ctx_nil)), mixed, bk_ok bkls rfl⟩ (fn := Try.f56) ⟨Try.func56, by kernel_rfl, by kernel_rfl, by kernel_rfl⟩ (fun x => need_Need_eq nf x.1 x.2.1)

/-! codemason codemasonref.Inside -/
abbrev q15P : List PT := [.val (.int .i64) (.bor true false), .val (.sl (.int .i64)) (.bor true false)]
abbrev q15R : List (Ty × Md) := [(.bool, .bor false true)]
def ref_Inside_phi (_ : Nat) : Nat → Option Contract := lookC []
def ref_Inside_keep : Nat → List Nat := lookK [(0, [0, 1, 7, 8, 9])]
def ref_Inside_b0 (_ : Nat) (n' : Int) (l' : List Int) (g0 : Int → Option (Bool × Unit)) (t9 : Int) : Option (Bool × Unit) :=
 bif decide (t9 < (l'.length : Int)) then
  bif inb t9 l'.length then
   bif decide (l'.getD t9.toNat 0 < 0) then
    some ((false, ()))
   else
    bif decide (l'.getD t9.toNat 0 ≥ n') then
     some ((false, ()))
    else
     g0 (IntKind.i64.wrap (t9 + 1))
  else
   none
 else
  some ((true, ()))
def ref_Inside_p (_ : Nat) (l0 : Int → List Int → Int → Option (Bool × Unit)) (n' : Int) (l' : List Int) : Option (Bool × Unit) :=
 l0 n' l' 0
def ref_Inside_l0 (nf : Nat) (n' : Int) (l' : List Int) : Nat → Int → Option (Bool × Unit)
 | 0, _ => none
 | fu + 1, t9 => ref_Inside_b0 nf n' l' (ref_Inside_l0 nf n' l' fu) t9
def ref_Inside_f (nf : Nat) (n' : Int) (l' : List Int) : Option (Bool × Unit) := ref_Inside_p nf (fun p0 p1 v0 => ref_Inside_l0 nf p0 p1 nf v0) n' l'
def q15I (nf b : Nat) (L : LC (Bool × Unit)) := LC.F tab (ref_Inside_phi nf) (fun _ F => iter nf F) ref_Inside_keep b L
def q15L0 (nf : Nat) : LC (Bool × Unit) := theL (findL tab (ref_Inside_phi nf) (fun _ F => iter nf F) ref_Inside_keep 0 0 (codeOf Try.f15) (fin tab q15R (resL ([]) Try.f15)) (fun _ _ => none) (fin tab q15R (resL ([]) Try.f15)))
def q15m0 (n' : Int) (l' : List Int) (t9 : Int) : St := ⟨fresh, [(0, vI1 n'), (1, AV.v iT1.sl mR1 l'), (7, AV.v iT1.sl mR1 l'), (8, vI1 (l'.length : Int)), (9, vI1 t9)]⟩
theorem q15h0 (nf : Nat) (n' : Int) (l' : List Int) (fu : Nat) (t9 : Int) : iter (fu + 1) (q15I nf 0 (q15L0 nf)) (q15m0 n' l' t9) = ref_Inside_b0 nf n' l' (fun t9 => iter fu (q15I nf 0 (q15L0 nf)) (q15m0 n' l' t9)) t9 := by kernel_rfl
theorem q15e0 (nf : Nat) (n' : Int) (l' : List Int) : ∀ (fu : Nat) (t9 : Int), iter fu (q15I nf 0 (q15L0 nf)) (q15m0 n' l' t9) = ref_Inside_l0 nf n' l' fu t9 := by
 intro fu
 induction fu with
 | zero => intros; rfl
 | succ fu ih =>
  intro t9
  rw [q15h0 nf n' l' fu t9]
  simp only [ih]
  rfl
theorem ref_Inside_eq (nf : Nat) (n' : Int) (l' : List Int) : runF tab (ref_Inside_phi nf) ref_Inside_keep nf q15P q15R (resL ([]) Try.f15) (codeOf Try.f15) ⟨n', l', ()⟩ = ref_Inside_f nf n' l' := by
 refine Eq.trans (b := ref_Inside_p nf (fun p0 p1 v0 => iter nf (q15I nf 0 (q15L0 nf)) (q15m0 p0 p1 v0)) n' l') (by kernel_rfl) ?_
 simp only [q15e0]
 rfl
def ref_Inside_F (nf : Nat) (x : denPs q15P) : Option (denL q15R) := ref_Inside_f nf x.1 x.2.1
def ref_Inside_C (nf : Nat) : Contract := ⟨q15P, q15R, ref_Inside_F nf, []⟩
theorem ref_Inside_ok : FnOK Try.prog 15 := ⟨Try.f15, codeOf Try.f15, Try.func15, by kernel_rfl, by kernel_rfl⟩
theorem ref_Inside_holds (nf : Nat) : Contract.Holds Try.prog 15 (ref_Inside_C nf) :=
 fn_holds (Φ := ref_Inside_phi nf) (keep := ref_Inside_keep) (n := nf) ⟨tabs.1, tabs.2, ctx_nil, mixed, bk_ok bkls rfl⟩ (fn := Try.f15) ⟨Try.func15, by kernel_rfl, by kernel_rfl, by kernel_rfl⟩ (fun x => ref_Inside_eq nf x.1 x.2.1)

/-! codemason codemasonref.Value -/
abbrev q16P : List PT := [.val (.int .i64) (.bor true false)]
abbrev q16R : List (Ty × Md) := [(.bool, .bor false true)]
def ref_Value_phi (_ : Nat) : Nat → Option Contract := lookC []
def ref_Value_keep : Nat → List Nat := lookK []
def ref_Value_p (_ : Nat) (x : Int) : Option (Bool × Unit) :=
 bif decide (x ≥ 0) then
  some ((decide (x ≤ 255), ()))
 else
  some ((false, ()))
def ref_Value_f (nf : Nat) (x : Int) : Option (Bool × Unit) := ref_Value_p nf x
theorem ref_Value_eq (nf : Nat) (x : Int) : runF tab (ref_Value_phi nf) ref_Value_keep nf q16P q16R (resL ([]) Try.f51) (codeOf Try.f51) ⟨x, ()⟩ = ref_Value_f nf x := by kernel_rfl
def ref_Value_F (nf : Nat) (x : denPs q16P) : Option (denL q16R) := ref_Value_f nf x.1
def ref_Value_C (nf : Nat) : Contract := ⟨q16P, q16R, ref_Value_F nf, []⟩
theorem ref_Value_ok : FnOK Try.prog 51 := ⟨Try.f51, codeOf Try.f51, Try.func51, by kernel_rfl, by kernel_rfl⟩
theorem ref_Value_holds (nf : Nat) : Contract.Holds Try.prog 51 (ref_Value_C nf) :=
 fn_holds (Φ := ref_Value_phi nf) (keep := ref_Value_keep) (n := nf) ⟨tabs.1, tabs.2, ctx_nil, mixed, bk_ok bkls rfl⟩ (fn := Try.f51) ⟨Try.func51, by kernel_rfl, by kernel_rfl, by kernel_rfl⟩ (fun x => ref_Value_eq nf x.1)

/-! codemason codemasonref.TermsCheck -/
abbrev q17P : List PT := [.val (.int .i64) (.bor true false), .val (.sl (.pair (.int .i64) (.pair (.int .i64) (.pair (.int .i64) (.pair (.int .i64) (.unit)))))) (.bor true false)]
abbrev q17R : List (Ty × Md) := [(.int .i64, .bor false true)]
def ref_TermsCheck_phi (nf : Nat) : Nat → Option Contract := lookC [(15, ref_Inside_C nf), (51, ref_Value_C nf)]
def ref_TermsCheck_keep : Nat → List Nat := lookK [(0, [0, 1, 23, 24, 25])]
def ref_TermsCheck_b0 (nf : Nat) (vars : Int) (l' : List TZ01) (g0 : Int → Option (Int × Unit)) (t25 : Int) : Option (Int × Unit) :=
 bif decide (t25 < (l'.length : Int)) then
  bif inb t25 l'.length then
   bif decide ((l'.getD t25.toNat (0, 0, 0, 0, ())).1 < 1) then
    some ((6, ()))
   else
    bif decide ((l'.getD t25.toNat (0, 0, 0, 0, ())).1 > 6) then
     some ((6, ()))
    else
     bif (l'.getD t25.toNat (0, 0, 0, 0, ())).1 == 1 then
      Option.bind (ref_Value_f nf ((l'.getD t25.toNat (0, 0, 0, 0, ())).2.2.2.1)) fun r =>
      bif !r.1 then
       some ((4, ()))
      else
       bif (l'.getD t25.toNat (0, 0, 0, 0, ())).1 == 2 then
        Option.bind (ref_Inside_f nf vars ([(l'.getD t25.toNat (0, 0, 0, 0, ())).2.2.2.1])) fun r2 =>
        bif !r2.1 then
         some ((4, ()))
        else
         bif decide ((l'.getD t25.toNat (0, 0, 0, 0, ())).1 ≥ 3) then
          Option.bind (ref_Inside_f nf t25 ([(l'.getD t25.toNat (0, 0, 0, 0, ())).2.1, (l'.getD t25.toNat (0, 0, 0, 0, ())).2.2.1])) fun r3 =>
          bif !r3.1 then
           some ((2, ()))
          else
           g0 (IntKind.i64.wrap (t25 + 1))
         else
          g0 (IntKind.i64.wrap (t25 + 1))
       else
        bif decide ((l'.getD t25.toNat (0, 0, 0, 0, ())).1 ≥ 3) then
         Option.bind (ref_Inside_f nf t25 ([(l'.getD t25.toNat (0, 0, 0, 0, ())).2.1, (l'.getD t25.toNat (0, 0, 0, 0, ())).2.2.1])) fun r4 =>
         bif !r4.1 then
          some ((2, ()))
         else
          g0 (IntKind.i64.wrap (t25 + 1))
        else
         g0 (IntKind.i64.wrap (t25 + 1))
     else
      bif (l'.getD t25.toNat (0, 0, 0, 0, ())).1 == 2 then
       Option.bind (ref_Inside_f nf vars ([(l'.getD t25.toNat (0, 0, 0, 0, ())).2.2.2.1])) fun r5 =>
       bif !r5.1 then
        some ((4, ()))
       else
        bif decide ((l'.getD t25.toNat (0, 0, 0, 0, ())).1 ≥ 3) then
         Option.bind (ref_Inside_f nf t25 ([(l'.getD t25.toNat (0, 0, 0, 0, ())).2.1, (l'.getD t25.toNat (0, 0, 0, 0, ())).2.2.1])) fun r6 =>
         bif !r6.1 then
          some ((2, ()))
         else
          g0 (IntKind.i64.wrap (t25 + 1))
        else
         g0 (IntKind.i64.wrap (t25 + 1))
      else
       bif decide ((l'.getD t25.toNat (0, 0, 0, 0, ())).1 ≥ 3) then
        Option.bind (ref_Inside_f nf t25 ([(l'.getD t25.toNat (0, 0, 0, 0, ())).2.1, (l'.getD t25.toNat (0, 0, 0, 0, ())).2.2.1])) fun r7 =>
        bif !r7.1 then
         some ((2, ()))
        else
         g0 (IntKind.i64.wrap (t25 + 1))
       else
        g0 (IntKind.i64.wrap (t25 + 1))
  else
   none
 else
  some ((0, ()))
def ref_TermsCheck_p (_ : Nat) (l0 : Int → List TZ01 → Int → Option (Int × Unit)) (vars : Int) (l' : List TZ01) : Option (Int × Unit) :=
 bif decide (vars < 0) then
  some ((1, ()))
 else
  bif decide (vars > 6) then
   some ((1, ()))
  else
   bif decide ((l'.length : Int) < 1) then
    some ((1, ()))
   else
    bif decide ((l'.length : Int) > 16) then
     some ((1, ()))
    else
     l0 vars l' 0
def ref_TermsCheck_l0 (nf : Nat) (vars : Int) (l' : List TZ01) : Nat → Int → Option (Int × Unit)
 | 0, _ => none
 | fu + 1, t25 => ref_TermsCheck_b0 nf vars l' (ref_TermsCheck_l0 nf vars l' fu) t25
def ref_TermsCheck_f (nf : Nat) (vars : Int) (l' : List TZ01) : Option (Int × Unit) := ref_TermsCheck_p nf (fun p0 p1 v0 => ref_TermsCheck_l0 nf p0 p1 nf v0) vars l'
def q17I (nf b : Nat) (L : LC (Int × Unit)) := LC.F tab (ref_TermsCheck_phi nf) (fun _ F => iter nf F) ref_TermsCheck_keep b L
def q17L0 (nf : Nat) : LC (Int × Unit) := theL (findL tab (ref_TermsCheck_phi nf) (fun _ F => iter nf F) ref_TermsCheck_keep 0 0 (codeOf Try.f58) (fin tab q17R (resL ([]) Try.f58)) (fun _ _ => none) (fin tab q17R (resL ([]) Try.f58)))
def q17m0 (vars : Int) (l' : List TZ01) (t25 : Int) : St := ⟨fresh, [(0, vI1 vars), (1, AV.v tZ11.sl mR1 l'), (23, AV.v tZ11.sl mR1 l'), (24, vI1 (l'.length : Int)), (25, vI1 t25)]⟩
theorem q17h0 (nf : Nat) (vars : Int) (l' : List TZ01) (fu : Nat) (t25 : Int) : iter (fu + 1) (q17I nf 0 (q17L0 nf)) (q17m0 vars l' t25) = ref_TermsCheck_b0 nf vars l' (fun t25 => iter fu (q17I nf 0 (q17L0 nf)) (q17m0 vars l' t25)) t25 := by kernel_rfl
theorem q17e0 (nf : Nat) (vars : Int) (l' : List TZ01) : ∀ (fu : Nat) (t25 : Int), iter fu (q17I nf 0 (q17L0 nf)) (q17m0 vars l' t25) = ref_TermsCheck_l0 nf vars l' fu t25 := by
 intro fu
 induction fu with
 | zero => intros; rfl
 | succ fu ih =>
  intro t25
  rw [q17h0 nf vars l' fu t25]
  simp only [ih]
  rfl
theorem ref_TermsCheck_eq (nf : Nat) (vars : Int) (l' : List TZ01) : runF tab (ref_TermsCheck_phi nf) ref_TermsCheck_keep nf q17P q17R (resL ([]) Try.f58) (codeOf Try.f58) ⟨vars, l', ()⟩ = ref_TermsCheck_f nf vars l' := by
 refine Eq.trans (b := ref_TermsCheck_p nf (fun p0 p1 v0 => iter nf (q17I nf 0 (q17L0 nf)) (q17m0 p0 p1 v0)) vars l') (by kernel_rfl) ?_
 simp only [q17e0]
 rfl
def ref_TermsCheck_F (nf : Nat) (x : denPs q17P) : Option (denL q17R) := ref_TermsCheck_f nf x.1 x.2.1
def ref_TermsCheck_C (nf : Nat) : Contract := ⟨q17P, q17R, ref_TermsCheck_F nf, []⟩
theorem ref_TermsCheck_ok : FnOK Try.prog 58 := ⟨Try.f58, codeOf Try.f58, Try.func58, by kernel_rfl, by kernel_rfl⟩
theorem ref_TermsCheck_holds (nf : Nat) : Contract.Holds Try.prog 58 (ref_TermsCheck_C nf) :=
 fn_holds (Φ := ref_TermsCheck_phi nf) (keep := ref_TermsCheck_keep) (n := nf) ⟨tabs.1, tabs.2, (ctx_cons ref_Inside_ok (ref_Inside_holds nf) (ctx_cons ref_Value_ok (ref_Value_holds nf) ctx_nil)), mixed, bk_ok bkls rfl⟩ (fn := Try.f58) ⟨Try.func58, by kernel_rfl, by kernel_rfl, by kernel_rfl⟩ (fun x => ref_TermsCheck_eq nf x.1 x.2.1)

/-! codemason codemasonref.Tree -/
abbrev q18P : List PT := [.val (.sl (.pair (.int .i64) (.pair (.int .i64) (.pair (.int .i64) (.pair (.int .i64) (.unit)))))) (.bor true false)]
abbrev q18R : List (Ty × Md) := [(.bool, .bor false true)]
def ref_Tree_phi (_ : Nat) : Nat → Option Contract := lookC []
def ref_Tree_keep : Nat → List Nat := lookK [(2, [0, 3, 4, 13, 14, 15]), (0, [0, 3])]
def ref_Tree_b0 (_ : Nat) (l2 : List TZ01 → Int → Int → Int → Option (Bool × Unit)) (l' : List TZ01) (_ : Int → Option (Bool × Unit)) (i : Int) : Option (Bool × Unit) :=
 bif decide (i < (l'.length : Int)) then
  l2 l' i 0 0
 else
  some ((true, ()))
def ref_Tree_b2 (_ : Nat) (l' : List TZ01) (i : Int) (g0 : Int → Option (Bool × Unit)) (g2 : Int → Int → Option (Bool × Unit)) (many t15 : Int) : Option (Bool × Unit) :=
 bif decide (t15 < (l'.length : Int)) then
  bif inb t15 l'.length then
   bif decide ((l'.getD t15.toNat (0, 0, 0, 0, ())).1 ≥ 3) then
    bif (l'.getD t15.toNat (0, 0, 0, 0, ())).2.1 == i then
     bif decide ((l'.getD t15.toNat (0, 0, 0, 0, ())).1 ≥ 3) then
      bif (l'.getD t15.toNat (0, 0, 0, 0, ())).2.2.1 == i then
       g2 (IntKind.i64.wrap (IntKind.i64.wrap (many + 1) + 1)) (IntKind.i64.wrap (t15 + 1))
      else
       g2 (IntKind.i64.wrap (many + 1)) (IntKind.i64.wrap (t15 + 1))
     else
      g2 (IntKind.i64.wrap (many + 1)) (IntKind.i64.wrap (t15 + 1))
    else
     bif decide ((l'.getD t15.toNat (0, 0, 0, 0, ())).1 ≥ 3) then
      bif (l'.getD t15.toNat (0, 0, 0, 0, ())).2.2.1 == i then
       g2 (IntKind.i64.wrap (many + 1)) (IntKind.i64.wrap (t15 + 1))
      else
       g2 many (IntKind.i64.wrap (t15 + 1))
     else
      g2 many (IntKind.i64.wrap (t15 + 1))
   else
    bif decide ((l'.getD t15.toNat (0, 0, 0, 0, ())).1 ≥ 3) then
     bif (l'.getD t15.toNat (0, 0, 0, 0, ())).2.2.1 == i then
      g2 (IntKind.i64.wrap (many + 1)) (IntKind.i64.wrap (t15 + 1))
     else
      g2 many (IntKind.i64.wrap (t15 + 1))
    else
     g2 many (IntKind.i64.wrap (t15 + 1))
  else
   none
 else
  bif decide (i < IntKind.i64.wrap ((l'.length : Int) - 1)) then
   bif many != 1 then
    some ((false, ()))
   else
    bif i == IntKind.i64.wrap ((l'.length : Int) - 1) then
     bif many != 0 then
      some ((false, ()))
     else
      g0 (IntKind.i64.wrap (i + 1))
    else
     g0 (IntKind.i64.wrap (i + 1))
  else
   bif i == IntKind.i64.wrap ((l'.length : Int) - 1) then
    bif many != 0 then
     some ((false, ()))
    else
     g0 (IntKind.i64.wrap (i + 1))
   else
    g0 (IntKind.i64.wrap (i + 1))
def ref_Tree_p (_ : Nat) (l0 : List TZ01 → Int → Option (Bool × Unit)) (l' : List TZ01) : Option (Bool × Unit) :=
 l0 l' 0
def ref_Tree_l2 (nf : Nat) (l' : List TZ01) (i : Int) (g0 : Int → Option (Bool × Unit)) : Nat → Int → Int → Option (Bool × Unit)
 | 0, _, _ => none
 | fu + 1, many, t15 => ref_Tree_b2 nf l' i g0 (ref_Tree_l2 nf l' i g0 fu) many t15
def ref_Tree_l0 (nf : Nat) (l' : List TZ01) : Nat → Int → Option (Bool × Unit)
 | 0, _ => none
 | fu + 1, i => ref_Tree_b0 nf (fun _ p1 v0 v1 => ref_Tree_l2 nf l' p1 (fun i => ref_Tree_l0 nf l' fu i) nf v0 v1) l' (ref_Tree_l0 nf l' fu) i
def ref_Tree_f (nf : Nat) (l' : List TZ01) : Option (Bool × Unit) := ref_Tree_p nf (fun p0 v0 => ref_Tree_l0 nf p0 nf v0) l'
def q18I (nf b : Nat) (L : LC (Bool × Unit)) := LC.F tab (ref_Tree_phi nf) (fun _ F => iter nf F) ref_Tree_keep b L
def q18L0 (nf : Nat) : LC (Bool × Unit) := theL (findL tab (ref_Tree_phi nf) (fun _ F => iter nf F) ref_Tree_keep 0 0 (codeOf Try.f59) (fin tab q18R (resL ([]) Try.f59)) (fun _ _ => none) (fin tab q18R (resL ([]) Try.f59)))
def q18m0 (l' : List TZ01) (i : Int) : St := ⟨fresh, [(0, AV.v tZ11.sl mR1 l'), (3, vI1 i)]⟩
def q18L2 (nf : Nat) (G0 : St → Option (Bool × Unit)) : LC (Bool × Unit) := theL (findL tab (ref_Tree_phi nf) (fun _ F => iter nf F) ref_Tree_keep 2 0 (q18L0 nf).c (fun st => norm (ref_Tree_keep 0) st G0) (q18L0 nf).Kx (q18L0 nf).Kr)
def q18m2 (l' : List TZ01) (i many t15 : Int) : St := ⟨fresh, [(0, AV.v tZ11.sl mR1 l'), (3, vI1 i), (4, vI1 many), (13, AV.v tZ11.sl mR1 l'), (14, vI1 (l'.length : Int)), (15, vI1 t15)]⟩
theorem q18h2 (nf : Nat) (G0 : St → Option (Bool × Unit)) (l' : List TZ01) (i : Int) (fu : Nat) (many t15 : Int) : iter (fu + 1) (q18I nf 2 (q18L2 nf G0)) (q18m2 l' i many t15) = ref_Tree_b2 nf l' i (fun i => G0 (q18m0 l' i)) (fun many t15 => iter fu (q18I nf 2 (q18L2 nf G0)) (q18m2 l' i many t15)) many t15 := by kernel_rfl
theorem q18e2 (nf : Nat) (G0 : St → Option (Bool × Unit)) (l' : List TZ01) (i : Int) : ∀ (fu : Nat) (many t15 : Int), iter fu (q18I nf 2 (q18L2 nf G0)) (q18m2 l' i many t15) = ref_Tree_l2 nf l' i (fun i => G0 (q18m0 l' i)) fu many t15 := by
 intro fu
 induction fu with
 | zero => intros; rfl
 | succ fu ih =>
  intro many t15
  rw [q18h2 nf G0 l' i fu many t15]
  simp only [ih]
  rfl
theorem q18h0 (nf : Nat) (l' : List TZ01) (fu : Nat) (i : Int) : iter (fu + 1) (q18I nf 0 (q18L0 nf)) (q18m0 l' i) = ref_Tree_b0 nf (fun _ p1 v0 v1 => iter nf (q18I nf 2 (q18L2 nf (iter fu (q18I nf 0 (q18L0 nf))))) (q18m2 l' p1 v0 v1)) l' (fun i => iter fu (q18I nf 0 (q18L0 nf)) (q18m0 l' i)) i := by kernel_rfl
theorem q18e0 (nf : Nat) (l' : List TZ01) : ∀ (fu : Nat) (i : Int), iter fu (q18I nf 0 (q18L0 nf)) (q18m0 l' i) = ref_Tree_l0 nf l' fu i := by
 intro fu
 induction fu with
 | zero => intros; rfl
 | succ fu ih =>
  intro i
  rw [q18h0 nf l' fu i]
  simp only [ih, q18e2]
  rfl
theorem ref_Tree_eq (nf : Nat) (l' : List TZ01) : runF tab (ref_Tree_phi nf) ref_Tree_keep nf q18P q18R (resL ([]) Try.f59) (codeOf Try.f59) ⟨l', ()⟩ = ref_Tree_f nf l' := by
 refine Eq.trans (b := ref_Tree_p nf (fun p0 v0 => iter nf (q18I nf 0 (q18L0 nf)) (q18m0 p0 v0)) l') (by kernel_rfl) ?_
 simp only [q18e0]
 rfl
def ref_Tree_F (nf : Nat) (x : denPs q18P) : Option (denL q18R) := ref_Tree_f nf x.1
def ref_Tree_C (nf : Nat) : Contract := ⟨q18P, q18R, ref_Tree_F nf, []⟩
theorem ref_Tree_ok : FnOK Try.prog 59 := ⟨Try.f59, codeOf Try.f59, Try.func59, by kernel_rfl, by kernel_rfl⟩
theorem ref_Tree_holds (nf : Nat) : Contract.Holds Try.prog 59 (ref_Tree_C nf) :=
 fn_holds (Φ := ref_Tree_phi nf) (keep := ref_Tree_keep) (n := nf) ⟨tabs.1, tabs.2, ctx_nil, mixed, bk_ok bkls rfl⟩ (fn := Try.f59) ⟨Try.func59, by kernel_rfl, by kernel_rfl, by kernel_rfl⟩ (fun x => ref_Tree_eq nf x.1)

/-! codemason codemasonlaw.treeCode -/
abbrev q19P : List PT := [.val (.int .i64) (.bor true false), .val (.sl (.pair (.int .i64) (.pair (.int .i64) (.pair (.int .i64) (.pair (.int .i64) (.unit)))))) (.bor true false)]
abbrev q19R : List (Ty × Md) := [(.int .i64, .bor false true)]
def law_treeCode_phi (nf : Nat) : Nat → Option Contract := lookC [(58, ref_TermsCheck_C nf), (59, ref_Tree_C nf)]
def law_treeCode_keep : Nat → List Nat := lookK []
def law_treeCode_p (nf : Nat) (vars : Int) (l' : List TZ01) : Option (Int × Unit) :=
 Option.bind (ref_TermsCheck_f nf vars l') fun r =>
 bif r.1 == 0 then
  Option.bind (ref_Tree_f nf l') fun r2 =>
  bif !r2.1 then
   some ((3, ()))
  else
   some ((r.1, ()))
 else
  some ((r.1, ()))
def law_treeCode_f (nf : Nat) (vars : Int) (l' : List TZ01) : Option (Int × Unit) := law_treeCode_p nf vars l'
theorem law_treeCode_eq (nf : Nat) (vars : Int) (l' : List TZ01) : runF tab (law_treeCode_phi nf) law_treeCode_keep nf q19P q19R (resL ([]) Try.f21) (codeOf Try.f21) ⟨vars, l', ()⟩ = law_treeCode_f nf vars l' := by kernel_rfl
def law_treeCode_F (nf : Nat) (x : denPs q19P) : Option (denL q19R) := law_treeCode_f nf x.1 x.2.1
def law_treeCode_C (nf : Nat) : Contract := ⟨q19P, q19R, law_treeCode_F nf, []⟩
theorem law_treeCode_ok : FnOK Try.prog 21 := ⟨Try.f21, codeOf Try.f21, Try.func21, by kernel_rfl, by kernel_rfl⟩
theorem law_treeCode_holds (nf : Nat) : Contract.Holds Try.prog 21 (law_treeCode_C nf) :=
 fn_holds (Φ := law_treeCode_phi nf) (keep := law_treeCode_keep) (n := nf) ⟨tabs.1, tabs.2, (ctx_cons ref_TermsCheck_ok (ref_TermsCheck_holds nf) (ctx_cons ref_Tree_ok (ref_Tree_holds nf) ctx_nil)), mixed, bk_ok bkls rfl⟩ (fn := Try.f21) ⟨Try.func21, by kernel_rfl, by kernel_rfl, by kernel_rfl⟩ (fun x => law_treeCode_eq nf x.1 x.2.1)

/-! codemason codemasonref.Laid -/
abbrev q110P : List PT := [.val (.sl (.pair (.int .i64) (.pair (.int .i64) (.pair (.int .i64) (.pair (.int .i64) (.unit)))))) (.bor true false), .val (.int .i64) (.bor true false)]
abbrev q110R : List (Ty × Md) := [(.sl (.pair (.int .i64) (.pair (.int .i64) (.unit))), .own false (.bor false false))]
def ref_Laid_phi (_ : Nat) (self : denPs q110P → Option (denL q110R)) : Nat → Option Contract := lookC [(23, ⟨q110P, q110R, self, []⟩)]
def ref_Laid_keep : Nat → List Nat := lookK []
def ref_Laid_p (_ : Nat) (self : denPs [.val (.sl (.pair (.int .i64) (.pair (.int .i64) (.pair (.int .i64) (.pair (.int .i64) (.unit)))))) (.bor true false), .val (.int .i64) (.bor true false)] → Option (denL [(.sl (.pair (.int .i64) (.pair (.int .i64) (.unit))), .own false (.bor false false))])) (l' : List TZ01) (i : Int) : Option (List (Int × Int × Unit) × Unit) :=
 bif inb i l'.length then
  bif decide ((l'.getD i.toNat (0, 0, 0, 0, ())).1 < 3) then
   some (([((l'.getD i.toNat (0, 0, 0, 0, ())).1, (l'.getD i.toNat (0, 0, 0, 0, ())).2.2.2.1, ())], ()))
  else
   both (Option.bind (self (l', (l'.getD i.toNat (0, 0, 0, 0, ())).2.1, ())) fun r =>
   both (Option.bind (self (l', (l'.getD i.toNat (0, 0, 0, 0, ())).2.2.1, ())) fun r2 =>
   both (bif bimp false !List.isEmpty r2.1 && (List.length r.1 + List.length r2.1).ble lim then
    bif bimp false ![((l'.getD i.toNat (0, 0, 0, 0, ())).1, 0, ())].isEmpty && ((r.1 ++ r2.1).length + [((l'.getD i.toNat (0, 0, 0, 0, ())).1, 0, ())].length).ble lim then
     some ((r.1 ++ r2.1 ++ [((l'.getD i.toNat (0, 0, 0, 0, ())).1, 0, ())], ()))
    else
     none
   else
    none) (both (bif bimp false !List.isEmpty r2.1 && (List.length r.1 + List.length r2.1).ble lim then
    bif bimp false ![((l'.getD i.toNat (0, 0, 0, 0, ())).1, 0, ())].isEmpty && ((r.1 ++ r2.1).length + [((l'.getD i.toNat (0, 0, 0, 0, ())).1, 0, ())].length).ble lim then
     some ((r.1 ++ r2.1 ++ [((l'.getD i.toNat (0, 0, 0, 0, ())).1, 0, ())], ()))
    else
     none
   else
    none) (bif bimp false !List.isEmpty r2.1 && (List.length r.1 + List.length r2.1).ble lim then
    bif bimp false ![((l'.getD i.toNat (0, 0, 0, 0, ())).1, 0, ())].isEmpty && ((r.1 ++ r2.1).length + [((l'.getD i.toNat (0, 0, 0, 0, ())).1, 0, ())].length).ble lim then
     some ((r.1 ++ r2.1 ++ [((l'.getD i.toNat (0, 0, 0, 0, ())).1, 0, ())], ()))
    else
     none
   else
    none))) (both (Option.bind (self (l', (l'.getD i.toNat (0, 0, 0, 0, ())).2.2.1, ())) fun r2 =>
   both (bif bimp false !List.isEmpty r2.1 && (List.length r.1 + List.length r2.1).ble lim then
    bif bimp false ![((l'.getD i.toNat (0, 0, 0, 0, ())).1, 0, ())].isEmpty && ((r.1 ++ r2.1).length + [((l'.getD i.toNat (0, 0, 0, 0, ())).1, 0, ())].length).ble lim then
     some ((r.1 ++ r2.1 ++ [((l'.getD i.toNat (0, 0, 0, 0, ())).1, 0, ())], ()))
    else
     none
   else
    none) (bif bimp false !List.isEmpty r2.1 && (List.length r.1 + List.length r2.1).ble lim then
    bif bimp false ![((l'.getD i.toNat (0, 0, 0, 0, ())).1, 0, ())].isEmpty && ((r.1 ++ r2.1).length + [((l'.getD i.toNat (0, 0, 0, 0, ())).1, 0, ())].length).ble lim then
     some ((r.1 ++ r2.1 ++ [((l'.getD i.toNat (0, 0, 0, 0, ())).1, 0, ())], ()))
    else
     none
   else
    none)) (Option.bind (self (l', (l'.getD i.toNat (0, 0, 0, 0, ())).2.2.1, ())) fun r2 =>
   bif bimp false !List.isEmpty r2.1 && (List.length r.1 + List.length r2.1).ble lim then
    bif bimp false ![((l'.getD i.toNat (0, 0, 0, 0, ())).1, 0, ())].isEmpty && ((r.1 ++ r2.1).length + [((l'.getD i.toNat (0, 0, 0, 0, ())).1, 0, ())].length).ble lim then
     some ((r.1 ++ r2.1 ++ [((l'.getD i.toNat (0, 0, 0, 0, ())).1, 0, ())], ()))
    else
     none
   else
    none))) (both (Option.bind (self (l', (l'.getD i.toNat (0, 0, 0, 0, ())).2.1, ())) fun r =>
   both (Option.bind (self (l', (l'.getD i.toNat (0, 0, 0, 0, ())).2.2.1, ())) fun r2 =>
   both (bif bimp false !List.isEmpty r2.1 && (List.length r.1 + List.length r2.1).ble lim then
    bif bimp false ![((l'.getD i.toNat (0, 0, 0, 0, ())).1, 0, ())].isEmpty && ((r.1 ++ r2.1).length + [((l'.getD i.toNat (0, 0, 0, 0, ())).1, 0, ())].length).ble lim then
     some ((r.1 ++ r2.1 ++ [((l'.getD i.toNat (0, 0, 0, 0, ())).1, 0, ())], ()))
    else
     none
   else
    none) (bif bimp false !List.isEmpty r2.1 && (List.length r.1 + List.length r2.1).ble lim then
    bif bimp false ![((l'.getD i.toNat (0, 0, 0, 0, ())).1, 0, ())].isEmpty && ((r.1 ++ r2.1).length + [((l'.getD i.toNat (0, 0, 0, 0, ())).1, 0, ())].length).ble lim then
     some ((r.1 ++ r2.1 ++ [((l'.getD i.toNat (0, 0, 0, 0, ())).1, 0, ())], ()))
    else
     none
   else
    none)) (Option.bind (self (l', (l'.getD i.toNat (0, 0, 0, 0, ())).2.2.1, ())) fun r2 =>
   bif bimp false !List.isEmpty r2.1 && (List.length r.1 + List.length r2.1).ble lim then
    bif bimp false ![((l'.getD i.toNat (0, 0, 0, 0, ())).1, 0, ())].isEmpty && ((r.1 ++ r2.1).length + [((l'.getD i.toNat (0, 0, 0, 0, ())).1, 0, ())].length).ble lim then
     some ((r.1 ++ r2.1 ++ [((l'.getD i.toNat (0, 0, 0, 0, ())).1, 0, ())], ()))
    else
     none
   else
    none)) (Option.bind (self (l', (l'.getD i.toNat (0, 0, 0, 0, ())).2.1, ())) fun r =>
   Option.bind (self (l', (l'.getD i.toNat (0, 0, 0, 0, ())).2.2.1, ())) fun r2 =>
   bif bimp false !List.isEmpty r2.1 && (List.length r.1 + List.length r2.1).ble lim then
    bif bimp false ![((l'.getD i.toNat (0, 0, 0, 0, ())).1, 0, ())].isEmpty && ((r.1 ++ r2.1).length + [((l'.getD i.toNat (0, 0, 0, 0, ())).1, 0, ())].length).ble lim then
     some ((r.1 ++ r2.1 ++ [((l'.getD i.toNat (0, 0, 0, 0, ())).1, 0, ())], ()))
    else
     none
   else
    none))
 else
  none
def ref_Laid_f (nf : Nat) (self : denPs [.val (.sl (.pair (.int .i64) (.pair (.int .i64) (.pair (.int .i64) (.pair (.int .i64) (.unit)))))) (.bor true false), .val (.int .i64) (.bor true false)] → Option (denL [(.sl (.pair (.int .i64) (.pair (.int .i64) (.unit))), .own false (.bor false false))])) (l' : List TZ01) (i : Int) : Option (List (Int × Int × Unit) × Unit) := ref_Laid_p nf self l' i
theorem ref_Laid_eq (nf : Nat) (self : denPs [.val (.sl (.pair (.int .i64) (.pair (.int .i64) (.pair (.int .i64) (.pair (.int .i64) (.unit)))))) (.bor true false), .val (.int .i64) (.bor true false)] → Option (denL [(.sl (.pair (.int .i64) (.pair (.int .i64) (.unit))), .own false (.bor false false))])) (l' : List TZ01) (i : Int) : runF tab (ref_Laid_phi nf self) ref_Laid_keep nf q110P q110R (resL ([]) Try.f23) (codeOf Try.f23) ⟨l', i, ()⟩ = ref_Laid_f nf self l' i := by kernel_rfl
def ref_Laid_F : Nat → denPs q110P → Option (denL q110R)
 | 0, _ => none
 | nf + 1, x => ref_Laid_f nf (ref_Laid_F nf) x.1 x.2.1
def ref_Laid_C (nf : Nat) : Contract := ⟨q110P, q110R, ref_Laid_F nf, []⟩
theorem ref_Laid_ok : FnOK Try.prog 23 := ⟨Try.f23, codeOf Try.f23, Try.func23, by kernel_rfl, by kernel_rfl⟩
theorem ref_Laid_holds : ∀ (nf : Nat), Contract.Holds Try.prog 23 (ref_Laid_C nf)
 | 0 => fun _ _ h => by cases h
 | nf + 1 => by
  have ih := ref_Laid_holds nf
  exact fn_holds (Φ := ref_Laid_phi nf (ref_Laid_F nf)) (keep := ref_Laid_keep) (n := nf) ⟨tabs.1, tabs.2, (ctx_cons ref_Laid_ok (ih) ctx_nil), mixed, bk_ok bkls rfl⟩ (fn := Try.f23) ⟨Try.func23, by kernel_rfl, by kernel_rfl, by kernel_rfl⟩ (fun x => ref_Laid_eq nf (ref_Laid_F nf) x.1 x.2.1)

/-! codemason codemasonref.SOps -/
abbrev q111P : List PT := [.val (.sl (.pair (.int .i64) (.pair (.int .i64) (.unit)))) (.bor true false), .val (.sl (.pair (.int .i64) (.pair (.int .i64) (.unit)))) (.bor true false)]
abbrev q111R : List (Ty × Md) := [(.bool, .bor false true)]
def ref_SOps_phi (_ : Nat) : Nat → Option Contract := lookC []
def ref_SOps_keep : Nat → List Nat := lookK [(0, [0, 1, 5])]
def ref_SOps_b0 (_ : Nat) (a b : List (Int × Int × Unit)) (g0 : Int → Option (Bool × Unit)) (i : Int) : Option (Bool × Unit) :=
 bif decide (i < (a.length : Int)) then
  bif inb i a.length then
   bif inb i b.length then
    bif !((a.getD i.toNat (0, 0, ())).1 == (b.getD i.toNat (0, 0, ())).1 && ((a.getD i.toNat (0, 0, ())).2.1 == (b.getD i.toNat (0, 0, ())).2.1 && true)) then
     some ((false, ()))
    else
     g0 (IntKind.i64.wrap (i + 1))
   else
    none
  else
   none
 else
  some ((true, ()))
def ref_SOps_p (_ : Nat) (l0 : List (Int × Int × Unit) → List (Int × Int × Unit) → Int → Option (Bool × Unit)) (a b : List (Int × Int × Unit)) : Option (Bool × Unit) :=
 bif (a.length : Int) != (b.length : Int) then
  some ((false, ()))
 else
  l0 a b 0
def ref_SOps_l0 (nf : Nat) (a b : List (Int × Int × Unit)) : Nat → Int → Option (Bool × Unit)
 | 0, _ => none
 | fu + 1, i => ref_SOps_b0 nf a b (ref_SOps_l0 nf a b fu) i
def ref_SOps_f (nf : Nat) (a b : List (Int × Int × Unit)) : Option (Bool × Unit) := ref_SOps_p nf (fun p0 p1 v0 => ref_SOps_l0 nf p0 p1 nf v0) a b
def q111I (nf b : Nat) (L : LC (Bool × Unit)) := LC.F tab (ref_SOps_phi nf) (fun _ F => iter nf F) ref_SOps_keep b L
def q111L0 (nf : Nat) : LC (Bool × Unit) := theL (findL tab (ref_SOps_phi nf) (fun _ F => iter nf F) ref_SOps_keep 0 0 (codeOf Try.f22) (fin tab q111R (resL ([]) Try.f22)) (fun _ _ => none) (fin tab q111R (resL ([]) Try.f22)))
def q111m0 (a b : List (Int × Int × Unit)) (i : Int) : St := ⟨fresh, [(0, AV.v (iT1.pair (iT1.pair Ty.unit)).sl mR1 a), (1, AV.v (iT1.pair (iT1.pair Ty.unit)).sl mR1 b), (5, vI1 i)]⟩
theorem q111h0 (nf : Nat) (a b : List (Int × Int × Unit)) (fu : Nat) (i : Int) : iter (fu + 1) (q111I nf 0 (q111L0 nf)) (q111m0 a b i) = ref_SOps_b0 nf a b (fun i => iter fu (q111I nf 0 (q111L0 nf)) (q111m0 a b i)) i := by kernel_rfl
theorem q111e0 (nf : Nat) (a b : List (Int × Int × Unit)) : ∀ (fu : Nat) (i : Int), iter fu (q111I nf 0 (q111L0 nf)) (q111m0 a b i) = ref_SOps_l0 nf a b fu i := by
 intro fu
 induction fu with
 | zero => intros; rfl
 | succ fu ih =>
  intro i
  rw [q111h0 nf a b fu i]
  simp only [ih]
  rfl
theorem ref_SOps_eq (nf : Nat) (a b : List (Int × Int × Unit)) : runF tab (ref_SOps_phi nf) ref_SOps_keep nf q111P q111R (resL ([]) Try.f22) (codeOf Try.f22) ⟨a, b, ()⟩ = ref_SOps_f nf a b := by
 refine Eq.trans (b := ref_SOps_p nf (fun p0 p1 v0 => iter nf (q111I nf 0 (q111L0 nf)) (q111m0 p0 p1 v0)) a b) (by kernel_rfl) ?_
 simp only [q111e0]
 rfl
def ref_SOps_F (nf : Nat) (x : denPs q111P) : Option (denL q111R) := ref_SOps_f nf x.1 x.2.1
def ref_SOps_C (nf : Nat) : Contract := ⟨q111P, q111R, ref_SOps_F nf, []⟩
theorem ref_SOps_ok : FnOK Try.prog 22 := ⟨Try.f22, codeOf Try.f22, Try.func22, by kernel_rfl, by kernel_rfl⟩
theorem ref_SOps_holds (nf : Nat) : Contract.Holds Try.prog 22 (ref_SOps_C nf) :=
 fn_holds (Φ := ref_SOps_phi nf) (keep := ref_SOps_keep) (n := nf) ⟨tabs.1, tabs.2, ctx_nil, mixed, bk_ok bkls rfl⟩ (fn := Try.f22) ⟨Try.func22, by kernel_rfl, by kernel_rfl, by kernel_rfl⟩ (fun x => ref_SOps_eq nf x.1 x.2.1)
end
end Go.Proofs.Ytoglkjmdloppcaa.S
