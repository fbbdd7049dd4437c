/- The functions of the code, as plain functions, and the theorems that say so: made by a program of this proof's own. -/
import Derived.Test.YtoglkjmdloppcaaAbCheck
import Derived.Test.YtoglkjmdloppcaaChecked
namespace Go.Proofs.Ytoglkjmdloppcaa.S
open Go Go.Ab
noncomputable section
def bkl : List (Nat × Bk) := []
def tyL : List (Nat × Ty) := [(2, .int .i64), (3, .int .i64), (4, .bool), (5, .int .u8), (6, .int .u8), (7, .pair (.int .i64) (.pair (.int .i64) (.pair (.bool) (.pair (.int .u8) (.unit))))), (8, .pair (.int .i64) (.pair (.int .i64) (.pair (.bool) (.pair (.int .u8) (.unit))))), (12, .int .u64), (21, .int .i32), (22, .sl (.sl (.int .i64))), (23, .sl (.int .u32)), (24, .int .u32), (25, .pair (.bool) (.pair (.bool) (.pair (.sl (.int .u32)) (.pair (.sl (.int .u32)) (.pair (.int .u32) (.unit)))))), (26, .pair (.bool) (.pair (.bool) (.pair (.sl (.int .u32)) (.pair (.sl (.int .u32)) (.pair (.int .u32) (.unit)))))), (27, .int .i64), (34, .sl (.int .i64)), (40, .sl (.pair (.sl (.pair (.int .i64) (.pair (.sl (.int .i64)) (.unit)))) (.pair (.sl (.pair (.int .i64) (.pair (.int .i64) (.pair (.int .i64) (.pair (.int .i64) (.pair (.int .i64) (.unit))))))) (.pair (.int .i64) (.pair (.int .i64) (.pair (.int .i64) (.pair (.sl (.int .i64)) (.unit)))))))), (45, .sl (.pair (.int .i64) (.pair (.int .i64) (.pair (.int .i64) (.pair (.int .i64) (.unit)))))), (46, .sl (.pair (.int .i64) (.pair (.int .i64) (.unit)))), (59, .sl (.pair (.int .i64) (.pair (.int .i64) (.unit)))), (69, .int .u64), (70, .mp (.int .i64) (.pair (.int .i64) (.pair (.int .i64) (.unit)))), (74, .sl (.pair (.sl (.pair (.int .i64) (.pair (.int .i64) (.pair (.int .i64) (.pair (.int .i64) (.pair (.int .i64) (.unit))))))) (.pair (.int .i64) (.pair (.int .i64) (.pair (.int .i64) (.unit)))))), (77, .pair (.int .i64) (.pair (.int .i64) (.unit))), (80, .sl (.pair (.int .i64) (.pair (.sl (.int .i64)) (.unit)))), (81, .sl (.pair (.int .i64) (.pair (.int .i64) (.pair (.int .i64) (.pair (.int .i64) (.pair (.int .i64) (.unit))))))), (82, .pair (.sl (.pair (.int .i64) (.pair (.sl (.int .i64)) (.unit)))) (.pair (.sl (.pair (.int .i64) (.pair (.int .i64) (.pair (.int .i64) (.pair (.int .i64) (.pair (.int .i64) (.unit))))))) (.pair (.int .i64) (.pair (.int .i64) (.pair (.int .i64) (.pair (.sl (.int .i64)) (.unit))))))), (83, .pair (.sl (.pair (.int .i64) (.pair (.sl (.int .i64)) (.unit)))) (.pair (.sl (.pair (.int .i64) (.pair (.int .i64) (.pair (.int .i64) (.pair (.int .i64) (.pair (.int .i64) (.unit))))))) (.pair (.int .i64) (.pair (.int .i64) (.pair (.int .i64) (.pair (.sl (.int .i64)) (.unit))))))), (84, .pair (.int .i64) (.pair (.sl (.int .i64)) (.unit))), (85, .pair (.int .i64) (.pair (.sl (.int .i64)) (.unit))), (86, .pair (.int .i64) (.pair (.int .i64) (.pair (.int .i64) (.pair (.int .i64) (.pair (.int .i64) (.unit)))))), (87, .pair (.int .i64) (.pair (.int .i64) (.pair (.int .i64) (.pair (.int .i64) (.pair (.int .i64) (.unit)))))), (96, .pair (.int .i64) (.pair (.int .i64) (.pair (.int .i64) (.pair (.int .i64) (.unit))))), (97, .pair (.int .i64) (.pair (.int .i64) (.pair (.int .i64) (.pair (.int .i64) (.unit))))), (98, .pair (.int .i64) (.pair (.int .i64) (.unit))), (99, .pair (.int .i64) (.pair (.int .i64) (.unit))), (103, .mp (.int .u32) (.int .i64)), (108, .mp (.int .u32) (.bool)), (117, .pair (.sl (.pair (.int .i64) (.pair (.int .i64) (.pair (.int .i64) (.pair (.int .i64) (.pair (.int .i64) (.unit))))))) (.pair (.int .i64) (.pair (.int .i64) (.pair (.int .i64) (.unit))))), (118, .pair (.sl (.pair (.int .i64) (.pair (.int .i64) (.pair (.int .i64) (.pair (.int .i64) (.pair (.int .i64) (.unit))))))) (.pair (.int .i64) (.pair (.int .i64) (.pair (.int .i64) (.unit))))), (125, .sl (.sl (.int .u32))), (136, .int .u8), (137, .int .u8), (140, .int .i32), (141, .int .i32)]
def mdL : List (Nat × Md) := [(2, .bor false true), (3, .bor false true), (4, .bor false true), (5, .bor false true), (6, .bor false true), (7, .bor false true), (8, .bor false true), (12, .bor false true), (21, .bor false true), (22, .own false (.bor false false)), (23, .own false (.bor false false)), (24, .bor false true), (25, .bor true false), (26, .bor true false), (27, .bor false true), (34, .own false (.bor false false)), (40, .own false (.bor false false)), (45, .own false (.bor false false)), (46, .own false (.bor false false)), (59, .own false (.bor false false)), (69, .bor false true), (70, .own false (.bor false false)), (74, .own false (.bor false false)), (77, .bor false true), (80, .own false (.bor false false)), (81, .own false (.bor false false)), (82, .bor true false), (83, .bor true false), (84, .bor true false), (85, .bor true false), (86, .bor false true), (87, .bor false true), (96, .bor false true), (97, .bor false true), (98, .bor false true), (99, .bor false true), (103, .own false (.bor false false)), (108, .own false (.bor false false)), (117, .bor true false), (118, .bor true false), (125, .own false (.bor false false)), (136, .bor false true), (137, .bor false true), (140, .bor false true), (141, .bor false true)]
def tab : Tab := ⟨lookT tyL, lookM mdL, hasT [77, 132], hasT [9, 10, 11], fun _ => none, lookB bkl⟩
theorem bkls : BkL Try.prog bkl := fun _ h => by cases h
theorem tabs : TabOK Try.prog tab ∧ EqOK Try.prog tab := tab_ok (by kernel_rfl) (by kernel_rfl)
theorem mixed : Try.prog.follows .mixedOrders = true := by kernel_rfl
abbrev mL1 : Md := (Md.bor false false)
abbrev mF1 : Md := (Md.bor false true)
abbrev mR1 : Md := (Md.bor true false)
abbrev uT1 : Ty := (Ty.int IntKind.u32)
abbrev iT1 : Ty := (Ty.int IntKind.i64)
abbrev tI5fn1 : Ty := ((Ty.int IntKind.i64).pair ((Ty.int IntKind.i64).pair ((Ty.int IntKind.i64).pair ((Ty.int IntKind.i64).pair ((Ty.int IntKind.i64).pair Ty.unit)))))
abbrev tI2fn1 : Ty := ((Ty.int IntKind.i64).pair ((Ty.int IntKind.i64).pair Ty.unit))
abbrev TBlfn1 : Type := List (List (Int × Int × Int × Int × Int × Unit) × Int × Int × Int × Unit)
abbrev TStfn1 : Type := List (Int × Int × Int × Int × Int × Unit)
abbrev TZ01 : Type := (List (Int × List Int × Unit) × TStfn1 × Int × Int × Int × List Int × Unit)
abbrev tZ11 : Ty := (((Ty.int IntKind.i64).pair ((Ty.int IntKind.i64).sl.pair Ty.unit)).sl.pair (tI5fn1.sl.pair ((Ty.int IntKind.i64).pair ((Ty.int IntKind.i64).pair ((Ty.int IntKind.i64).pair ((Ty.int IntKind.i64).sl.pair Ty.unit))))))
abbrev TZ21 : Type := (Int × List Int × Unit)
abbrev TZ31 : Type := (Int × Int × Int × Unit)
abbrev TZ41 : Type := (List (List Int) × Unit)
abbrev vI1 := AV.v (Ty.int IntKind.i64) (Md.bor false true)

/-! codemason block.Next -/
abbrev q10P : List PT := [.val (.sl (.pair (.sl tI5fn1) (.pair (.int .i64) (.pair (.int .i64) (.pair (.int .i64) (.unit)))))) (.bor true false)]
abbrev q10R : List (Ty × Md) := [(.sl (.sl (.int .i64)), .own false (.bor false false))]
def block_Next_tab : Tab := ⟨lookT tyL, lookM ([(22, .own false (.own true (.bor false true)))] ++ mdL), hasT [77, 132], hasT [9, 10, 11], fun _ => none, lookB bkl⟩
theorem block_Next_tabs : TabOK Try.prog block_Next_tab ∧ EqOK Try.prog block_Next_tab := tab_ok (by kernel_rfl) (by kernel_rfl)
def block_Next_phi (_ : Nat) : Nat → Option Contract := lookC []
def block_Next_keep : Nat → List Nat := lookK [(0, [0, 3, 8, 9, 10, 11])]
def block_Next_b0 (_ : Nat) (p : TBlfn1) (g0 : List (List Int) → Int → Option TZ41) (next : List (List Int)) (t11 : Int) : Option TZ41 :=
 bif decide (t11 < (p.length : Int)) then
  bif inb t11 p.length then
   bif decide ((p.getD t11.toNat ([], 0, 0, 0, ())).2.2.1 ≥ 0) then
    bif inb t11 next.length then
     bif ![(p.getD t11.toNat ([], 0, 0, 0, ())).2.2.1].isEmpty && (List.length (next.getD t11.toNat []) + [(p.getD t11.toNat ([], 0, 0, 0, ())).2.2.1].length).ble lim then
      bif inb t11 next.length then
       bif decide ([Stp.el t11.toNat] = [] ++ [Stp.el t11.toNat]) then
        bif decide ((p.getD t11.toNat ([], 0, 0, 0, ())).2.1 ≥ 0) then
         bif (p.getD t11.toNat ([], 0, 0, 0, ())).2.2.2.1 != (p.getD t11.toNat ([], 0, 0, 0, ())).2.2.1 then
          bif inb t11 (next.set t11.toNat (next.getD t11.toNat [] ++ [(p.getD t11.toNat ([], 0, 0, 0, ())).2.2.1])).length then
           bif ![(p.getD t11.toNat ([], 0, 0, 0, ())).2.2.2.1].isEmpty && (List.length ((next.set t11.toNat (next.getD t11.toNat [] ++ [(p.getD t11.toNat ([], 0, 0, 0, ())).2.2.1])).getD t11.toNat []) + [(p.getD t11.toNat ([], 0, 0, 0, ())).2.2.2.1].length).ble lim then
            bif inb t11 (next.set t11.toNat (next.getD t11.toNat [] ++ [(p.getD t11.toNat ([], 0, 0, 0, ())).2.2.1])).length then
             bif decide ([Stp.el t11.toNat] = [] ++ [Stp.el t11.toNat]) then
              g0 ((next.set t11.toNat (next.getD t11.toNat [] ++ [(p.getD t11.toNat ([], 0, 0, 0, ())).2.2.1])).set t11.toNat ((next.set t11.toNat (next.getD t11.toNat [] ++ [(p.getD t11.toNat ([], 0, 0, 0, ())).2.2.1])).getD t11.toNat [] ++ [(p.getD t11.toNat ([], 0, 0, 0, ())).2.2.2.1])) (IntKind.i64.wrap (t11 + 1))
             else
              none
            else
             none
           else
            none
          else
           none
         else
          g0 (next.set t11.toNat (next.getD t11.toNat [] ++ [(p.getD t11.toNat ([], 0, 0, 0, ())).2.2.1])) (IntKind.i64.wrap (t11 + 1))
        else
         g0 (next.set t11.toNat (next.getD t11.toNat [] ++ [(p.getD t11.toNat ([], 0, 0, 0, ())).2.2.1])) (IntKind.i64.wrap (t11 + 1))
       else
        none
      else
       none
     else
      none
    else
     none
   else
    bif decide ((p.getD t11.toNat ([], 0, 0, 0, ())).2.1 ≥ 0) then
     bif (p.getD t11.toNat ([], 0, 0, 0, ())).2.2.2.1 != (p.getD t11.toNat ([], 0, 0, 0, ())).2.2.1 then
      bif inb t11 next.length then
       bif ![(p.getD t11.toNat ([], 0, 0, 0, ())).2.2.2.1].isEmpty && (List.length (next.getD t11.toNat []) + [(p.getD t11.toNat ([], 0, 0, 0, ())).2.2.2.1].length).ble lim then
        bif inb t11 next.length then
         bif decide ([Stp.el t11.toNat] = [] ++ [Stp.el t11.toNat]) then
          g0 (next.set t11.toNat (next.getD t11.toNat [] ++ [(p.getD t11.toNat ([], 0, 0, 0, ())).2.2.2.1])) (IntKind.i64.wrap (t11 + 1))
         else
          none
        else
         none
       else
        none
      else
       none
     else
      g0 next (IntKind.i64.wrap (t11 + 1))
    else
     g0 next (IntKind.i64.wrap (t11 + 1))
  else
   none
 else
  some ((next, ()))
def block_Next_p (_ : Nat) (l0 : TBlfn1 → List (List Int) → Int → Option TZ41) (p : TBlfn1) : Option TZ41 :=
 bif decide (0 ≤ (p.length : Int)) && decide ((p.length : Int) ≤ (p.length : Int)) && decide ((p.length : Int) ≤ (lim : Int)) then
  l0 p (List.replicate (p.length : Int).toNat []) 0
 else
  none
def block_Next_l0 (nf : Nat) (p : TBlfn1) : Nat → List (List Int) → Int → Option TZ41
 | 0, _, _ => none
 | fu + 1, next, t11 => block_Next_b0 nf p (block_Next_l0 nf p fu) next t11
def block_Next_f (nf : Nat) (p : TBlfn1) : Option TZ41 := block_Next_p nf (fun p0 v0 v1 => block_Next_l0 nf p0 nf v0 v1) p
def q10I (nf b : Nat) (L : LC TZ41) := LC.F block_Next_tab (block_Next_phi nf) (fun _ F => iter nf F) block_Next_keep b L
def q10L0 (nf : Nat) : LC TZ41 := theL (findL block_Next_tab (block_Next_phi nf) (fun _ F => iter nf F) block_Next_keep 0 0 (codeOf Try.f41) (fin block_Next_tab q10R (resL ([]) Try.f41)) (fun _ _ => none) (fin block_Next_tab q10R (resL ([]) Try.f41)))
def q10m0 (p : TBlfn1) (next : List (List Int)) (t11 : Int) : St := ⟨fresh, [(0, AV.v (tI5fn1.sl.pair (iT1.pair tI2fn1)).sl mR1 p), (3, AV.ow 500003 iT1.sl.sl (Md.own false (Md.own true mF1)) next), (8, AV.dead), (9, AV.v (tI5fn1.sl.pair (iT1.pair tI2fn1)).sl mR1 p), (10, vI1 (p.length : Int)), (11, vI1 t11)]⟩
theorem q10h0 (nf : Nat) (p : TBlfn1) (fu : Nat) (next : List (List Int)) (t11 : Int) : iter (fu + 1) (q10I nf 0 (q10L0 nf)) (q10m0 p next t11) = block_Next_b0 nf p (fun next t11 => iter fu (q10I nf 0 (q10L0 nf)) (q10m0 p next t11)) next t11 := by kernel_rfl
theorem q10e0 (nf : Nat) (p : TBlfn1) : ∀ (fu : Nat) (next : List (List Int)) (t11 : Int), iter fu (q10I nf 0 (q10L0 nf)) (q10m0 p next t11) = block_Next_l0 nf p fu next t11 := by
 intro fu
 induction fu with
 | zero => intros; rfl
 | succ fu ih =>
  intro next t11
  rw [q10h0 nf p fu next t11]
  simp only [ih]
  rfl
theorem block_Next_eq (nf : Nat) (p : TBlfn1) : runF block_Next_tab (block_Next_phi nf) block_Next_keep nf q10P q10R (resL ([]) Try.f41) (codeOf Try.f41) ⟨p, ()⟩ = block_Next_f nf p := by
 refine Eq.trans (b := block_Next_p nf (fun p0 v0 v1 => iter nf (q10I nf 0 (q10L0 nf)) (q10m0 p0 v0 v1)) p) (by kernel_rfl) ?_
 simp only [q10e0]
 rfl
def block_Next_F (nf : Nat) (x : denPs q10P) : Option (denL q10R) := block_Next_f nf x.1
def block_Next_C (nf : Nat) : Contract := ⟨q10P, q10R, block_Next_F nf, []⟩
theorem block_Next_ok : FnOK Try.prog 41 := ⟨Try.f41, codeOf Try.f41, Try.func41, by kernel_rfl, by kernel_rfl⟩
theorem block_Next_holds (nf : Nat) : Contract.Holds Try.prog 41 (block_Next_C nf) :=
 fn_holds (Φ := block_Next_phi nf) (keep := block_Next_keep) (n := nf) ⟨block_Next_tabs.1, block_Next_tabs.2, ctx_nil, mixed, bk_ok bkls rfl⟩ (fn := Try.f41) ⟨Try.func41, by kernel_rfl, by kernel_rfl, by kernel_rfl⟩ (fun x => block_Next_eq nf x.1)

/-! codemason single.bare -/
abbrev q11P : List PT := [.val (.sl (.pair (.sl (.pair (.int .i64) (.pair (.sl (.int .i64)) (.unit)))) (.pair (.sl tI5fn1) (.pair (.int .i64) (.pair (.int .i64) (.pair (.int .i64) (.pair (.sl (.int .i64)) (.unit)))))))) (.bor true false)]
abbrev q11R : List (Ty × Md) := [(.sl (.pair (.sl tI5fn1) (.pair (.int .i64) (.pair (.int .i64) (.pair (.int .i64) (.unit))))), .own false (.bor false false))]
def single_bare_phi (_ : Nat) : Nat → Option Contract := lookC []
def single_bare_keep : Nat → List Nat := lookK [(0, [0, 3, 6, 7, 8])]
def single_bare_b0 (_ : Nat) (l' : List TZ01) (g0 : TBlfn1 → Int → Option (TBlfn1 × Unit)) (p : TBlfn1) (t8 : Int) : Option (TBlfn1 × Unit) :=
 bif decide (t8 < (l'.length : Int)) then
  bif inb t8 l'.length then
   bif !false && leM (tI5fn1.sl.pair (iT1.pair tI2fn1)) 0 mL1 mL1 && (p.length + [(([] : TStfn1), (l'.getD t8.toNat ([], [], 0, 0, 0, [], ())).2.2.1, (l'.getD t8.toNat ([], [], 0, 0, 0, [], ())).2.2.2.1, (l'.getD t8.toNat ([], [], 0, 0, 0, [], ())).2.2.2.2.1, ())].length).ble lim then
    g0 (p ++ [(([] : TStfn1), (l'.getD t8.toNat ([], [], 0, 0, 0, [], ())).2.2.1, (l'.getD t8.toNat ([], [], 0, 0, 0, [], ())).2.2.2.1, (l'.getD t8.toNat ([], [], 0, 0, 0, [], ())).2.2.2.2.1, ())]) (IntKind.i64.wrap (t8 + 1))
   else
    none
  else
   none
 else
  some ((p, ()))
def single_bare_p (_ : Nat) (l0 : List TZ01 → TBlfn1 → Int → Option (TBlfn1 × Unit)) (l' : List TZ01) : Option (TBlfn1 × Unit) :=
 l0 l' [] 0
def single_bare_l0 (nf : Nat) (l' : List TZ01) : Nat → TBlfn1 → Int → Option (TBlfn1 × Unit)
 | 0, _, _ => none
 | fu + 1, p, t8 => single_bare_b0 nf l' (single_bare_l0 nf l' fu) p t8
def single_bare_f (nf : Nat) (l' : List TZ01) : Option (TBlfn1 × Unit) := single_bare_p nf (fun p0 v0 v1 => single_bare_l0 nf p0 nf v0 v1) l'
def q11I (nf b : Nat) (L : LC (TBlfn1 × Unit)) := LC.F tab (single_bare_phi nf) (fun _ F => iter nf F) single_bare_keep b L
def q11L0 (nf : Nat) : LC (TBlfn1 × Unit) := theL (findL tab (single_bare_phi nf) (fun _ F => iter nf F) single_bare_keep 0 0 (codeOf Try.f42) (fin tab q11R (resL ([]) Try.f42)) (fun _ _ => none) (fin tab q11R (resL ([]) Try.f42)))
def q11m0 (l' : List TZ01) (p : TBlfn1) (t8 : Int) : St := ⟨fresh, [(0, AV.v tZ11.sl mR1 l'), (3, AV.ow 500003 (tI5fn1.sl.pair (iT1.pair tI2fn1)).sl (Md.own false mL1) p), (6, AV.v tZ11.sl mR1 l'), (7, vI1 (l'.length : Int)), (8, vI1 t8)]⟩
theorem q11h0 (nf : Nat) (l' : List TZ01) (fu : Nat) (p : TBlfn1) (t8 : Int) : iter (fu + 1) (q11I nf 0 (q11L0 nf)) (q11m0 l' p t8) = single_bare_b0 nf l' (fun p t8 => iter fu (q11I nf 0 (q11L0 nf)) (q11m0 l' p t8)) p t8 := by kernel_rfl
theorem q11e0 (nf : Nat) (l' : List TZ01) : ∀ (fu : Nat) (p : TBlfn1) (t8 : Int), iter fu (q11I nf 0 (q11L0 nf)) (q11m0 l' p t8) = single_bare_l0 nf l' fu p t8 := by
 intro fu
 induction fu with
 | zero => intros; rfl
 | succ fu ih =>
  intro p t8
  rw [q11h0 nf l' fu p t8]
  simp only [ih]
  rfl
theorem single_bare_eq (nf : Nat) (l' : List TZ01) : runF tab (single_bare_phi nf) single_bare_keep nf q11P q11R (resL ([]) Try.f42) (codeOf Try.f42) ⟨l', ()⟩ = single_bare_f nf l' := by
 refine Eq.trans (b := single_bare_p nf (fun p0 v0 v1 => iter nf (q11I nf 0 (q11L0 nf)) (q11m0 p0 v0 v1)) l') (by kernel_rfl) ?_
 simp only [q11e0]
 rfl
def single_bare_F (nf : Nat) (x : denPs q11P) : Option (denL q11R) := single_bare_f nf x.1
def single_bare_C (nf : Nat) : Contract := ⟨q11P, q11R, single_bare_F nf, []⟩
theorem single_bare_ok : FnOK Try.prog 42 := ⟨Try.f42, codeOf Try.f42, Try.func42, by kernel_rfl, by kernel_rfl⟩
theorem single_bare_holds (nf : Nat) : Contract.Holds Try.prog 42 (single_bare_C nf) :=
 fn_holds (Φ := single_bare_phi nf) (keep := single_bare_keep) (n := nf) ⟨tabs.1, tabs.2, ctx_nil, mixed, bk_ok bkls rfl⟩ (fn := Try.f42) ⟨Try.func42, by kernel_rfl, by kernel_rfl, by kernel_rfl⟩ (fun x => single_bare_eq nf x.1)

/-! codemason fact.Turn -/
abbrev q12P : List PT := [.val (.sl (.sl (.int .i64))) (.bor true false)]
abbrev q12R : List (Ty × Md) := [(.sl (.sl (.int .i64)), .own false (.bor false false))]
def fact_Turn_tab : Tab := ⟨lookT tyL, lookM ([(22, .own false (.own true (.bor false true)))] ++ mdL), hasT [77, 132], hasT [9, 10, 11], fun _ => none, lookB bkl⟩
theorem fact_Turn_tabs : TabOK Try.prog fact_Turn_tab ∧ EqOK Try.prog fact_Turn_tab := tab_ok (by kernel_rfl) (by kernel_rfl)
def fact_Turn_phi (_ : Nat) : Nat → Option Contract := lookC []
def fact_Turn_keep : Nat → List Nat := lookK [(2, [0, 3, 4, 5, 10, 11, 12, 13, 16, 17, 18, 19, 20]), (0, [0, 3, 10, 11, 12, 13])]
def fact_Turn_b0 (_ : Nat) (l2 : List (List Int) → Int → List (List Int) → Int → Option TZ41) (next : List (List Int)) (_ : List (List Int) → Int → Option TZ41) (out : List (List Int)) (t13 : Int) : Option TZ41 :=
 bif decide (t13 < (next.length : Int)) then
  bif inb t13 next.length then
   l2 next t13 out 0
  else
   none
 else
  some ((out, ()))
def fact_Turn_b2 (_ : Nat) (next : List (List Int)) (t13 : Int) (g0 g2 : List (List Int) → Int → Option TZ41) (out2 : List (List Int)) (t20 : Int) : Option TZ41 :=
 bif decide (t20 < ((List.length (next.getD t13.toNat [])) : Int)) then
  bif inb t20 (List.length (next.getD t13.toNat [])) then
   bif inb (List.getD (next.getD t13.toNat []) t20.toNat 0) out2.length then
    bif ![t13].isEmpty && (List.length (out2.getD (Int.toNat (List.getD (next.getD t13.toNat []) t20.toNat 0)) []) + [t13].length).ble lim then
     bif inb (List.getD (next.getD t13.toNat []) t20.toNat 0) out2.length then
      bif decide ([Stp.el (Int.toNat (List.getD (next.getD t13.toNat []) t20.toNat 0))] = [] ++ [Stp.el (Int.toNat (List.getD (next.getD t13.toNat []) t20.toNat 0))]) then
       g2 (out2.set (Int.toNat (List.getD (next.getD t13.toNat []) t20.toNat 0)) (out2.getD (Int.toNat (List.getD (next.getD t13.toNat []) t20.toNat 0)) [] ++ [t13])) (IntKind.i64.wrap (t20 + 1))
      else
       none
     else
      none
    else
     none
   else
    none
  else
   none
 else
  g0 out2 (IntKind.i64.wrap (t13 + 1))
def fact_Turn_p (_ : Nat) (l0 : List (List Int) → List (List Int) → Int → Option TZ41) (next : List (List Int)) : Option TZ41 :=
 bif decide (0 ≤ (next.length : Int)) && decide ((next.length : Int) ≤ (next.length : Int)) && decide ((next.length : Int) ≤ (lim : Int)) then
  l0 next (List.replicate (next.length : Int).toNat []) 0
 else
  none
def fact_Turn_l2 (nf : Nat) (next : List (List Int)) (t13 : Int) (g0 : List (List Int) → Int → Option TZ41) : Nat → List (List Int) → Int → Option TZ41
 | 0, _, _ => none
 | fu + 1, out2, t20 => fact_Turn_b2 nf next t13 g0 (fact_Turn_l2 nf next t13 g0 fu) out2 t20
def fact_Turn_l0 (nf : Nat) (next : List (List Int)) : Nat → List (List Int) → Int → Option TZ41
 | 0, _, _ => none
 | fu + 1, out, t13 => fact_Turn_b0 nf (fun _ p1 v0 v1 => fact_Turn_l2 nf next p1 (fun out t13 => fact_Turn_l0 nf next fu out t13) nf v0 v1) next (fact_Turn_l0 nf next fu) out t13
def fact_Turn_f (nf : Nat) (next : List (List Int)) : Option TZ41 := fact_Turn_p nf (fun p0 v0 v1 => fact_Turn_l0 nf p0 nf v0 v1) next
def q12I (nf b : Nat) (L : LC TZ41) := LC.F fact_Turn_tab (fact_Turn_phi nf) (fun _ F => iter nf F) fact_Turn_keep b L
def q12L0 (nf : Nat) : LC TZ41 := theL (findL fact_Turn_tab (fact_Turn_phi nf) (fun _ F => iter nf F) fact_Turn_keep 0 0 (codeOf Try.f32) (fin fact_Turn_tab q12R (resL ([]) Try.f32)) (fun _ _ => none) (fin fact_Turn_tab q12R (resL ([]) Try.f32)))
def q12m0 (next out : List (List Int)) (t13 : Int) : St := ⟨fresh, [(0, AV.v iT1.sl.sl mR1 next), (3, AV.ow 500003 iT1.sl.sl (Md.own false (Md.own true mF1)) out), (10, AV.dead), (11, AV.v iT1.sl.sl mR1 next), (12, vI1 (next.length : Int)), (13, vI1 t13)]⟩
def q12L2 (nf : Nat) (G0 : St → Option TZ41) : LC TZ41 := theL (findL fact_Turn_tab (fact_Turn_phi nf) (fun _ F => iter nf F) fact_Turn_keep 2 0 (q12L0 nf).c (fun st => norm (fact_Turn_keep 0) st G0) (q12L0 nf).Kx (q12L0 nf).Kr)
def q12m2 (next : List (List Int)) (t13 : Int) (out2 : List (List Int)) (t20 : Int) : St := ⟨fresh, [(0, AV.v iT1.sl.sl mR1 next), (3, AV.ow 500003 iT1.sl.sl (Md.own false (Md.own true mF1)) out2), (4, vI1 t13), (5, AV.v iT1.sl mR1 (next.getD t13.toNat [])), (10, AV.dead), (11, AV.v iT1.sl.sl mR1 next), (12, vI1 (next.length : Int)), (13, vI1 t13), (16, AV.rop iT1.sl mR1 (next.getD t13.toNat [])), (17, AV.v iT1.sl mR1 (next.getD t13.toNat [])), (18, AV.v iT1.sl mR1 (next.getD t13.toNat [])), (19, vI1 ((List.length (next.getD t13.toNat [])) : Int)), (20, vI1 t20)]⟩
theorem q12h2 (nf : Nat) (G0 : St → Option TZ41) (next : List (List Int)) (t13 : Int) (fu : Nat) (out2 : List (List Int)) (t20 : Int) : iter (fu + 1) (q12I nf 2 (q12L2 nf G0)) (q12m2 next t13 out2 t20) = fact_Turn_b2 nf next t13 (fun out t13 => G0 (q12m0 next out t13)) (fun out2 t20 => iter fu (q12I nf 2 (q12L2 nf G0)) (q12m2 next t13 out2 t20)) out2 t20 := by kernel_rfl
theorem q12e2 (nf : Nat) (G0 : St → Option TZ41) (next : List (List Int)) (t13 : Int) : ∀ (fu : Nat) (out2 : List (List Int)) (t20 : Int), iter fu (q12I nf 2 (q12L2 nf G0)) (q12m2 next t13 out2 t20) = fact_Turn_l2 nf next t13 (fun out t13 => G0 (q12m0 next out t13)) fu out2 t20 := by
 intro fu
 induction fu with
 | zero => intros; rfl
 | succ fu ih =>
  intro out2 t20
  rw [q12h2 nf G0 next t13 fu out2 t20]
  simp only [ih]
  rfl
theorem q12h0 (nf : Nat) (next : List (List Int)) (fu : Nat) (out : List (List Int)) (t13 : Int) : iter (fu + 1) (q12I nf 0 (q12L0 nf)) (q12m0 next out t13) = fact_Turn_b0 nf (fun _ p1 v0 v1 => iter nf (q12I nf 2 (q12L2 nf (iter fu (q12I nf 0 (q12L0 nf))))) (q12m2 next p1 v0 v1)) next (fun out t13 => iter fu (q12I nf 0 (q12L0 nf)) (q12m0 next out t13)) out t13 := by kernel_rfl
theorem q12e0 (nf : Nat) (next : List (List Int)) : ∀ (fu : Nat) (out : List (List Int)) (t13 : Int), iter fu (q12I nf 0 (q12L0 nf)) (q12m0 next out t13) = fact_Turn_l0 nf next fu out t13 := by
 intro fu
 induction fu with
 | zero => intros; rfl
 | succ fu ih =>
  intro out t13
  rw [q12h0 nf next fu out t13]
  simp only [ih, q12e2]
  rfl
theorem fact_Turn_eq (nf : Nat) (next : List (List Int)) : runF fact_Turn_tab (fact_Turn_phi nf) fact_Turn_keep nf q12P q12R (resL ([]) Try.f32) (codeOf Try.f32) ⟨next, ()⟩ = fact_Turn_f nf next := by
 refine Eq.trans (b := fact_Turn_p nf (fun p0 v0 v1 => iter nf (q12I nf 0 (q12L0 nf)) (q12m0 p0 v0 v1)) next) (by kernel_rfl) ?_
 simp only [q12e0]
 rfl
def fact_Turn_F (nf : Nat) (x : denPs q12P) : Option (denL q12R) := fact_Turn_f nf x.1
def fact_Turn_C (nf : Nat) : Contract := ⟨q12P, q12R, fact_Turn_F nf, []⟩
theorem fact_Turn_ok : FnOK Try.prog 32 := ⟨Try.f32, codeOf Try.f32, Try.func32, by kernel_rfl, by kernel_rfl⟩
theorem fact_Turn_holds (nf : Nat) : Contract.Holds Try.prog 32 (fact_Turn_C nf) :=
 fn_holds (Φ := fact_Turn_phi nf) (keep := fact_Turn_keep) (n := nf) ⟨fact_Turn_tabs.1, fact_Turn_tabs.2, ctx_nil, mixed, bk_ok bkls rfl⟩ (fn := Try.f32) ⟨Try.func32, by kernel_rfl, by kernel_rfl, by kernel_rfl⟩ (fun x => fact_Turn_eq nf x.1)

/-! codemason single.From -/
abbrev q13P : List PT := [.val (.sl (.sl (.int .i64))) (.bor true false)]
abbrev q13R : List (Ty × Md) := [(.sl (.sl (.int .i64)), .own false (.bor false false))]
def single_From_phi (nf : Nat) : Nat → Option Contract := lookC [(32, fact_Turn_C nf)]
def single_From_keep : Nat → List Nat := lookK []
def single_From_p (nf : Nat) (next : List (List Int)) : Option TZ41 :=
 Option.bind (fact_Turn_f nf next) fun r =>
 bif inb 0 (List.length r.1) then
  bif bimp false !List.isEmpty (List.getD r.1 0 []) && ([-1].length + List.length (List.getD r.1 0 [])).ble lim then
   bif inb 0 (List.length r.1) then
    some ((List.set r.1 0 ([-1] ++ List.getD r.1 0 []), ()))
   else
    none
  else
   none
 else
  none
def single_From_f (nf : Nat) (next : List (List Int)) : Option TZ41 := single_From_p nf next
theorem single_From_eq (nf : Nat) (next : List (List Int)) : runF tab (single_From_phi nf) single_From_keep nf q13P q13R (resL ([]) Try.f44) (codeOf Try.f44) ⟨next, ()⟩ = single_From_f nf next := by kernel_rfl
def single_From_F (nf : Nat) (x : denPs q13P) : Option (denL q13R) := single_From_f nf x.1
def single_From_C (nf : Nat) : Contract := ⟨q13P, q13R, single_From_F nf, []⟩
theorem single_From_ok : FnOK Try.prog 44 := ⟨Try.f44, codeOf Try.f44, Try.func44, by kernel_rfl, by kernel_rfl⟩
theorem single_From_holds (nf : Nat) : Contract.Holds Try.prog 44 (single_From_C nf) :=
 fn_holds (Φ := single_From_phi nf) (keep := single_From_keep) (n := nf) ⟨tabs.1, tabs.2, (ctx_cons fact_Turn_ok (fact_Turn_holds nf) ctx_nil), mixed, bk_ok bkls rfl⟩ (fn := Try.f44) ⟨Try.func44, by kernel_rfl, by kernel_rfl, by kernel_rfl⟩ (fun x => single_From_eq nf x.1)

/-! codemason single.large -/
abbrev q14P : List PT := [.val (.int .i64) (.bor true false), .val (.sl (.pair (.sl (.pair (.int .i64) (.pair (.sl (.int .i64)) (.unit)))) (.pair (.sl tI5fn1) (.pair (.int .i64) (.pair (.int .i64) (.pair (.int .i64) (.pair (.sl (.int .i64)) (.unit)))))))) (.bor true false)]
abbrev q14R : List (Ty × Md) := [(.bool, .bor false true)]
def single_large_phi (_ : Nat) : Nat → Option Contract := lookC []
def single_large_keep : Nat → List Nat := lookK [(0, [0, 1, 5, 6, 9, 10, 11])]
def single_large_b0 (_ : Nat) (vars : Int) (l' : List TZ01) (g0 : Int → Int → Int → Option (Bool × Unit)) (steps joins t11 : Int) : Option (Bool × Unit) :=
 bif decide (t11 < (l'.length : Int)) then
  bif inb t11 l'.length then
   g0 (IntKind.i64.wrap (steps + ((List.length (l'.getD t11.toNat ([], [], 0, 0, 0, [], ())).2.1) : Int))) (IntKind.i64.wrap (joins + ((List.length (l'.getD t11.toNat ([], [], 0, 0, 0, [], ())).1) : Int))) (IntKind.i64.wrap (t11 + 1))
  else
   none
 else
  bif decide (vars < 1) then
   some ((true, ()))
  else
   bif decide (vars > 6) then
    some ((true, ()))
   else
    bif decide ((l'.length : Int) < 1) then
     some ((true, ()))
    else
     bif decide ((l'.length : Int) > 8) then
      some ((true, ()))
     else
      bif decide (steps > 20) then
       some ((true, ()))
      else
       some ((decide (joins > 64), ()))
def single_large_p (_ : Nat) (l0 : Int → List TZ01 → Int → Int → Int → Option (Bool × Unit)) (vars : Int) (l' : List TZ01) : Option (Bool × Unit) :=
 l0 vars l' 0 0 0
def single_large_l0 (nf : Nat) (vars : Int) (l' : List TZ01) : Nat → Int → Int → Int → Option (Bool × Unit)
 | 0, _, _, _ => none
 | fu + 1, steps, joins, t11 => single_large_b0 nf vars l' (single_large_l0 nf vars l' fu) steps joins t11
def single_large_f (nf : Nat) (vars : Int) (l' : List TZ01) : Option (Bool × Unit) := single_large_p nf (fun p0 p1 v0 v1 v2 => single_large_l0 nf p0 p1 nf v0 v1 v2) vars l'
def q14I (nf b : Nat) (L : LC (Bool × Unit)) := LC.F tab (single_large_phi nf) (fun _ F => iter nf F) single_large_keep b L
def q14L0 (nf : Nat) : LC (Bool × Unit) := theL (findL tab (single_large_phi nf) (fun _ F => iter nf F) single_large_keep 0 0 (codeOf Try.f76) (fin tab q14R (resL ([]) Try.f76)) (fun _ _ => none) (fin tab q14R (resL ([]) Try.f76)))
def q14m0 (vars : Int) (l' : List TZ01) (steps joins t11 : Int) : St := ⟨fresh, [(0, vI1 vars), (1, AV.v tZ11.sl mR1 l'), (5, vI1 steps), (6, vI1 joins), (9, AV.v tZ11.sl mR1 l'), (10, vI1 (l'.length : Int)), (11, vI1 t11)]⟩
theorem q14h0 (nf : Nat) (vars : Int) (l' : List TZ01) (fu : Nat) (steps joins t11 : Int) : iter (fu + 1) (q14I nf 0 (q14L0 nf)) (q14m0 vars l' steps joins t11) = single_large_b0 nf vars l' (fun steps joins t11 => iter fu (q14I nf 0 (q14L0 nf)) (q14m0 vars l' steps joins t11)) steps joins t11 := by kernel_rfl
theorem q14e0 (nf : Nat) (vars : Int) (l' : List TZ01) : ∀ (fu : Nat) (steps joins t11 : Int), iter fu (q14I nf 0 (q14L0 nf)) (q14m0 vars l' steps joins t11) = single_large_l0 nf vars l' fu steps joins t11 := by
 intro fu
 induction fu with
 | zero => intros; rfl
 | succ fu ih =>
  intro steps joins t11
  rw [q14h0 nf vars l' fu steps joins t11]
  simp only [ih]
  rfl
theorem single_large_eq (nf : Nat) (vars : Int) (l' : List TZ01) : runF tab (single_large_phi nf) single_large_keep nf q14P q14R (resL ([]) Try.f76) (codeOf Try.f76) ⟨vars, l', ()⟩ = single_large_f nf vars l' := by
 refine Eq.trans (b := single_large_p nf (fun p0 p1 v0 v1 v2 => iter nf (q14I nf 0 (q14L0 nf)) (q14m0 p0 p1 v0 v1 v2)) vars l') (by kernel_rfl) ?_
 simp only [q14e0]
 rfl
def single_large_F (nf : Nat) (x : denPs q14P) : Option (denL q14R) := single_large_f nf x.1 x.2.1
def single_large_C (nf : Nat) : Contract := ⟨q14P, q14R, single_large_F nf, []⟩
theorem single_large_ok : FnOK Try.prog 76 := ⟨Try.f76, codeOf Try.f76, Try.func76, by kernel_rfl, by kernel_rfl⟩
theorem single_large_holds (nf : Nat) : Contract.Holds Try.prog 76 (single_large_C nf) :=
 fn_holds (Φ := single_large_phi nf) (keep := single_large_keep) (n := nf) ⟨tabs.1, tabs.2, ctx_nil, mixed, bk_ok bkls rfl⟩ (fn := Try.f76) ⟨Try.func76, by kernel_rfl, by kernel_rfl, by kernel_rfl⟩ (fun x => single_large_eq nf x.1 x.2.1)

/-! codemason single.Check 1 -/
abbrev q15P : List PT := [.val (.int .i64) (.bor true false), .ptr (.sl (.pair (.sl (.pair (.int .i64) (.pair (.sl (.int .i64)) (.unit)))) (.pair (.sl tI5fn1) (.pair (.int .i64) (.pair (.int .i64) (.pair (.int .i64) (.pair (.sl (.int .i64)) (.unit)))))))) (.bor true false)]
abbrev q15R : List (Ty × Md) := [(.bool, .bor false true)]
def single_Check_1_phi (_ : Nat) : Nat → Option Contract := lookC []
def single_Check_1_keep : Nat → List Nat := lookK []
def single_Check_1_p (_ : Nat) (i : Int) (c1 : List TZ01) : Option (Bool × Unit) :=
 bif decide (i ≥ 0) then
  some ((decide (i < (c1.length : Int)), ()))
 else
  some ((false, ()))
def single_Check_1_f (nf : Nat) (i : Int) (c1 : List TZ01) : Option (Bool × Unit) := single_Check_1_p nf i c1
theorem single_Check_1_eq (nf : Nat) (i : Int) (c1 : List TZ01) : runF tab (single_Check_1_phi nf) single_Check_1_keep nf q15P q15R (resL ([]) Try.f77) (codeOf Try.f77) ⟨i, c1, ()⟩ = single_Check_1_f nf i c1 := by kernel_rfl
def single_Check_1_F (nf : Nat) (x : denPs q15P) : Option (denL q15R) := single_Check_1_f nf x.1 x.2.1
def single_Check_1_C (nf : Nat) : Contract := ⟨q15P, q15R, single_Check_1_F nf, []⟩
theorem single_Check_1_ok : FnOK Try.prog 77 := ⟨Try.f77, codeOf Try.f77, Try.func77, by kernel_rfl, by kernel_rfl⟩
theorem single_Check_1_holds (nf : Nat) : Contract.Holds Try.prog 77 (single_Check_1_C nf) :=
 fn_holds (Φ := single_Check_1_phi nf) (keep := single_Check_1_keep) (n := nf) ⟨tabs.1, tabs.2, ctx_nil, mixed, bk_ok bkls rfl⟩ (fn := Try.f77) ⟨Try.func77, by kernel_rfl, by kernel_rfl, by kernel_rfl⟩ (fun x => single_Check_1_eq nf x.1 x.2.1)

/-! codemason single.uses -/
abbrev q16P : List PT := [.val tI5fn1 (.bor true false)]
abbrev q16R : List (Ty × Md) := [(.sl (.int .i64), .own false (.bor false false))]
def single_uses_phi (_ : Nat) : Nat → Option Contract := lookC []
def single_uses_keep : Nat → List Nat := lookK []
def single_uses_p (_ : Nat) (s : Int × Int × Int × Int × Int × Unit) : Option (List Int × Unit) :=
 bif s.1 == 1 then
  some (([], ()))
 else
  bif s.1 == 2 then
   some (([s.2.2.2.2.1], ()))
  else
   some (([s.2.2.1, s.2.2.2.1], ()))
def single_uses_f (nf : Nat) (s : Int × Int × Int × Int × Int × Unit) : Option (List Int × Unit) := single_uses_p nf s
theorem single_uses_eq (nf : Nat) (s : Int × Int × Int × Int × Int × Unit) : runF tab (single_uses_phi nf) single_uses_keep nf q16P q16R (resL ([]) Try.f46) (codeOf Try.f46) ⟨s, ()⟩ = single_uses_f nf s := by kernel_rfl
def single_uses_F (nf : Nat) (x : denPs q16P) : Option (denL q16R) := single_uses_f nf x.1
def single_uses_C (nf : Nat) : Contract := ⟨q16P, q16R, single_uses_F nf, []⟩
theorem single_uses_ok : FnOK Try.prog 46 := ⟨Try.f46, codeOf Try.f46, Try.func46, by kernel_rfl, by kernel_rfl⟩
theorem single_uses_holds (nf : Nat) : Contract.Holds Try.prog 46 (single_uses_C nf) :=
 fn_holds (Φ := single_uses_phi nf) (keep := single_uses_keep) (n := nf) ⟨tabs.1, tabs.2, ctx_nil, mixed, bk_ok bkls rfl⟩ (fn := Try.f46) ⟨Try.func46, by kernel_rfl, by kernel_rfl, by kernel_rfl⟩ (fun x => single_uses_eq nf x.1)

/-! codemason single.bad 1 -/
abbrev q17P : List PT := [.val (.int .i64) (.bor true false)]
abbrev q17R : List (Ty × Md) := [(.bool, .bor false true)]
def single_bad_1_phi (_ : Nat) : Nat → Option Contract := lookC []
def single_bad_1_keep : Nat → List Nat := lookK []
def single_bad_1_p (_ : Nat) (i : Int) : Option (Bool × Unit) :=
 bif decide (i < 0) then
  some ((true, ()))
 else
  some ((decide (i ≥ 128), ()))
def single_bad_1_f (nf : Nat) (i : Int) : Option (Bool × Unit) := single_bad_1_p nf i
theorem single_bad_1_eq (nf : Nat) (i : Int) : runF tab (single_bad_1_phi nf) single_bad_1_keep nf q17P q17R (resL ([]) Try.f93) (codeOf Try.f93) ⟨i, ()⟩ = single_bad_1_f nf i := by kernel_rfl
def single_bad_1_F (nf : Nat) (x : denPs q17P) : Option (denL q17R) := single_bad_1_f nf x.1
def single_bad_1_C (nf : Nat) : Contract := ⟨q17P, q17R, single_bad_1_F nf, []⟩
theorem single_bad_1_ok : FnOK Try.prog 93 := ⟨Try.f93, codeOf Try.f93, Try.func93, by kernel_rfl, by kernel_rfl⟩
theorem single_bad_1_holds (nf : Nat) : Contract.Holds Try.prog 93 (single_bad_1_C nf) :=
 fn_holds (Φ := single_bad_1_phi nf) (keep := single_bad_1_keep) (n := nf) ⟨tabs.1, tabs.2, ctx_nil, mixed, bk_ok bkls rfl⟩ (fn := Try.f93) ⟨Try.func93, by kernel_rfl, by kernel_rfl, by kernel_rfl⟩ (fun x => single_bad_1_eq nf x.1)

/-! slices.IndexFunc int int codemason single.bad 1 -/
abbrev q18P : List PT := [.val (.sl (.int .i64)) (.bor true false), .clo 93 []]
abbrev q18R : List (Ty × Md) := [(.int .i64, .bor false true)]
def slices_IndexFunc__single_bad_1_phi (nf : Nat) : Nat → Option Contract := lookC [(93, single_bad_1_C nf)]
def slices_IndexFunc__single_bad_1_keep : Nat → List Nat := lookK [(0, [0, 1, 7, 8])]
def slices_IndexFunc__single_bad_1_b0 (nf : Nat) (s : List Int) (g0 : Int → Option (Int × Unit)) (t8 : Int) : Option (Int × Unit) :=
 bif decide (t8 < (s.length : Int)) then
  bif inb t8 s.length then
   Option.bind (single_bad_1_f nf (s.getD t8.toNat 0)) fun r =>
   bif r.1 then
    some ((t8, ()))
   else
    g0 (IntKind.i64.wrap (t8 + 1))
  else
   none
 else
  some ((-1, ()))
def slices_IndexFunc__single_bad_1_p (_ : Nat) (l0 : List Int → Int → Option (Int × Unit)) (s : List Int) (_ : Unit) : Option (Int × Unit) :=
 l0 s 0
def slices_IndexFunc__single_bad_1_l0 (nf : Nat) (s : List Int) : Nat → Int → Option (Int × Unit)
 | 0, _ => none
 | fu + 1, t8 => slices_IndexFunc__single_bad_1_b0 nf s (slices_IndexFunc__single_bad_1_l0 nf s fu) t8
def slices_IndexFunc__single_bad_1_f (nf : Nat) (s : List Int) (f : Unit) : Option (Int × Unit) := slices_IndexFunc__single_bad_1_p nf (fun p0 v0 => slices_IndexFunc__single_bad_1_l0 nf p0 nf v0) s f
def q18I (nf b : Nat) (L : LC (Int × Unit)) := LC.F tab (slices_IndexFunc__single_bad_1_phi nf) (fun _ F => iter nf F) slices_IndexFunc__single_bad_1_keep b L
def q18L0 (nf : Nat) : LC (Int × Unit) := theL (findL tab (slices_IndexFunc__single_bad_1_phi nf) (fun _ F => iter nf F) slices_IndexFunc__single_bad_1_keep 0 0 (codeOf Try.f92) (fin tab q18R (resL ([]) Try.f92)) (fun _ _ => none) (fin tab q18R (resL ([]) Try.f92)))
def q18m0 (s : List Int) (t8 : Int) : St := ⟨fresh, [(0, AV.v iT1.sl mR1 s), (1, AV.clo 93 []), (7, vI1 (s.length : Int)), (8, vI1 t8)]⟩
theorem q18h0 (nf : Nat) (s : List Int) (fu : Nat) (t8 : Int) : iter (fu + 1) (q18I nf 0 (q18L0 nf)) (q18m0 s t8) = slices_IndexFunc__single_bad_1_b0 nf s (fun t8 => iter fu (q18I nf 0 (q18L0 nf)) (q18m0 s t8)) t8 := by kernel_rfl
theorem q18e0 (nf : Nat) (s : List Int) : ∀ (fu : Nat) (t8 : Int), iter fu (q18I nf 0 (q18L0 nf)) (q18m0 s t8) = slices_IndexFunc__single_bad_1_l0 nf s fu t8 := by
 intro fu
 induction fu with
 | zero => intros; rfl
 | succ fu ih =>
  intro t8
  rw [q18h0 nf s fu t8]
  simp only [ih]
  rfl
theorem slices_IndexFunc__single_bad_1_eq (nf : Nat) (s : List Int) (f : Unit) : runF tab (slices_IndexFunc__single_bad_1_phi nf) slices_IndexFunc__single_bad_1_keep nf q18P q18R (resL ([]) Try.f92) (codeOf Try.f92) ⟨s, f, ()⟩ = slices_IndexFunc__single_bad_1_f nf s f := by
 refine Eq.trans (b := slices_IndexFunc__single_bad_1_p nf (fun p0 v0 => iter nf (q18I nf 0 (q18L0 nf)) (q18m0 p0 v0)) s f) (by kernel_rfl) ?_
 simp only [q18e0]
 rfl
def slices_IndexFunc__single_bad_1_F (nf : Nat) (x : denPs q18P) : Option (denL q18R) := slices_IndexFunc__single_bad_1_f nf x.1 x.2.1
def slices_IndexFunc__single_bad_1_C (nf : Nat) : Contract := ⟨q18P, q18R, slices_IndexFunc__single_bad_1_F nf, []⟩
theorem slices_IndexFunc__single_bad_1_ok : FnOK Try.prog 92 := ⟨Try.f92, codeOf Try.f92, Try.func92, by kernel_rfl, by kernel_rfl⟩
theorem slices_IndexFunc__single_bad_1_holds (nf : Nat) : Contract.Holds Try.prog 92 (slices_IndexFunc__single_bad_1_C nf) :=
 fn_holds (Φ := slices_IndexFunc__single_bad_1_phi nf) (keep := slices_IndexFunc__single_bad_1_keep) (n := nf) ⟨tabs.1, tabs.2, (ctx_cons single_bad_1_ok (single_bad_1_holds nf) ctx_nil), mixed, bk_ok bkls rfl⟩ (fn := Try.f92) ⟨Try.func92, by kernel_rfl, by kernel_rfl, by kernel_rfl⟩ (fun x => slices_IndexFunc__single_bad_1_eq nf x.1 x.2.1)

/-! slices.ContainsFunc int int codemason single.bad 1 -/
abbrev q19P : List PT := [.val (.sl (.int .i64)) (.bor true false), .clo 93 []]
abbrev q19R : List (Ty × Md) := [(.bool, .bor false true)]
def slices_ContainsFunc__single_bad_1_phi (nf : Nat) : Nat → Option Contract := lookC [(92, slices_IndexFunc__single_bad_1_C nf)]
def slices_ContainsFunc__single_bad_1_keep : Nat → List Nat := lookK []
def slices_ContainsFunc__single_bad_1_p (nf : Nat) (s : List Int) (_ : Unit) : Option (Bool × Unit) :=
 Option.bind (slices_IndexFunc__single_bad_1_f nf s (())) fun r =>
 some ((decide (r.1 ≥ 0), ()))
def slices_ContainsFunc__single_bad_1_f (nf : Nat) (s : List Int) (f : Unit) : Option (Bool × Unit) := slices_ContainsFunc__single_bad_1_p nf s f
theorem slices_ContainsFunc__single_bad_1_eq (nf : Nat) (s : List Int) (f : Unit) : runF tab (slices_ContainsFunc__single_bad_1_phi nf) slices_ContainsFunc__single_bad_1_keep nf q19P q19R (resL ([]) Try.f85) (codeOf Try.f85) ⟨s, f, ()⟩ = slices_ContainsFunc__single_bad_1_f nf s f := by kernel_rfl
def slices_ContainsFunc__single_bad_1_F (nf : Nat) (x : denPs q19P) : Option (denL q19R) := slices_ContainsFunc__single_bad_1_f nf x.1 x.2.1
def slices_ContainsFunc__single_bad_1_C (nf : Nat) : Contract := ⟨q19P, q19R, slices_ContainsFunc__single_bad_1_F nf, []⟩
theorem slices_ContainsFunc__single_bad_1_ok : FnOK Try.prog 85 := ⟨Try.f85, codeOf Try.f85, Try.func85, by kernel_rfl, by kernel_rfl⟩
theorem slices_ContainsFunc__single_bad_1_holds (nf : Nat) : Contract.Holds Try.prog 85 (slices_ContainsFunc__single_bad_1_C nf) :=
 fn_holds (Φ := slices_ContainsFunc__single_bad_1_phi nf) (keep := slices_ContainsFunc__single_bad_1_keep) (n := nf) ⟨tabs.1, tabs.2, (ctx_cons slices_IndexFunc__single_bad_1_ok (slices_IndexFunc__single_bad_1_holds nf) ctx_nil), mixed, bk_ok bkls rfl⟩ (fn := Try.f85) ⟨Try.func85, by kernel_rfl, by kernel_rfl, by kernel_rfl⟩ (fun x => slices_ContainsFunc__single_bad_1_eq nf x.1 x.2.1)

/-! codemason single.bad -/
abbrev q110P : List PT := [.val (.sl (.int .i64)) (.bor true false)]
abbrev q110R : List (Ty × Md) := [(.bool, .bor false true)]
def single_bad_phi (nf : Nat) : Nat → Option Contract := lookC [(85, slices_ContainsFunc__single_bad_1_C nf)]
def single_bad_keep : Nat → List Nat := lookK []
def single_bad_p (nf : Nat) (l' : List Int) : Option (Bool × Unit) :=
 Option.bind (slices_ContainsFunc__single_bad_1_f nf l' (())) fun r =>
 some ((r.1, ()))
def single_bad_f (nf : Nat) (l' : List Int) : Option (Bool × Unit) := single_bad_p nf l'
theorem single_bad_eq (nf : Nat) (l' : List Int) : runF tab (single_bad_phi nf) single_bad_keep nf q110P q110R (resL ([]) Try.f89) (codeOf Try.f89) ⟨l', ()⟩ = single_bad_f nf l' := by kernel_rfl
def single_bad_F (nf : Nat) (x : denPs q110P) : Option (denL q110R) := single_bad_f nf x.1
def single_bad_C (nf : Nat) : Contract := ⟨q110P, q110R, single_bad_F nf, []⟩
theorem single_bad_ok : FnOK Try.prog 89 := ⟨Try.f89, codeOf Try.f89, Try.func89, by kernel_rfl, by kernel_rfl⟩
theorem single_bad_holds (nf : Nat) : Contract.Holds Try.prog 89 (single_bad_C nf) :=
 fn_holds (Φ := single_bad_phi nf) (keep := single_bad_keep) (n := nf) ⟨tabs.1, tabs.2, (ctx_cons slices_ContainsFunc__single_bad_1_ok (slices_ContainsFunc__single_bad_1_holds nf) ctx_nil), mixed, bk_ok bkls rfl⟩ (fn := Try.f89) ⟨Try.func89, by kernel_rfl, by kernel_rfl, by kernel_rfl⟩ (fun x => single_bad_eq nf x.1)

/-! codemason single.inside -/
abbrev q111P : List PT := [.val (.pair (.sl (.pair (.int .i64) (.pair (.sl (.int .i64)) (.unit)))) (.pair (.sl tI5fn1) (.pair (.int .i64) (.pair (.int .i64) (.pair (.int .i64) (.pair (.sl (.int .i64)) (.unit))))))) (.bor true false), .val (.int .i64) (.bor true false)]
abbrev q111R : List (Ty × Md) := [(.int .i64, .bor false true)]
def single_inside_phi (nf : Nat) : Nat → Option Contract := lookC [(46, single_uses_C nf), (89, single_bad_C nf)]
def single_inside_keep : Nat → List Nat := lookK [(2, [0, 2, 31, 32, 33, 34]), (0, [0, 1, 2, 9, 10, 11, 12])]
def single_inside_b0 (nf : Nat) (l2 : List TZ21 × TStfn1 × Int × Int × Int × List Int × Unit → List TZ21 × TStfn1 × Int × Int × Int × List Int × Unit → List TZ21 × TStfn1 × Int × Int × Int × List Int × Unit → Int → Option (Int × Unit)) (b : List TZ21 × TStfn1 × Int × Int × Int × List Int × Unit) (from' : Int) (g0 : List TZ21 × TStfn1 × Int × Int × Int × List Int × Unit → Int → Option (Int × Unit)) (b2 : List TZ21 × TStfn1 × Int × Int × Int × List Int × Unit) (t12 : Int) : Option (Int × Unit) :=
 bif decide (t12 < ((List.length b.1) : Int)) then
  bif inb t12 (List.length b.1) then
   bif ((List.length (List.getD b.1 t12.toNat (0, [], ())).2.1) : Int) != from' then
    some ((3, ()))
   else
    Option.bind (single_bad_f nf ([(List.getD b.1 t12.toNat (0, [], ())).1])) fun r =>
    bif r.1 then
     some ((2, ()))
    else
     Option.bind (single_bad_f nf ((List.getD b.1 t12.toNat (0, [], ())).2.1)) fun r2 =>
     bif r2.1 then
      some ((2, ()))
     else
      g0 b2 (IntKind.i64.wrap (t12 + 1))
  else
   none
 else
  l2 b b2 b2 0
def single_inside_b2 (nf : Nat) (b b2 : List TZ21 × TStfn1 × Int × Int × Int × List Int × Unit) (g2 : List TZ21 × TStfn1 × Int × Int × Int × List Int × Unit → Int → Option (Int × Unit)) (b3 : List TZ21 × TStfn1 × Int × Int × Int × List Int × Unit) (t34 : Int) : Option (Int × Unit) :=
 bif decide (t34 < ((List.length b2.2.1) : Int)) then
  bif inb t34 (List.length b2.2.1) then
   bif decide ((List.getD b2.2.1 t34.toNat (0, 0, 0, 0, 0, ())).1 < 1) then
    some ((6, ()))
   else
    bif decide ((List.getD b2.2.1 t34.toNat (0, 0, 0, 0, 0, ())).1 > 6) then
     some ((6, ()))
    else
     bif (List.getD b2.2.1 t34.toNat (0, 0, 0, 0, 0, ())).1 == 1 then
      bif decide ((List.getD b2.2.1 t34.toNat (0, 0, 0, 0, 0, ())).2.2.2.2.1 < 0) then
       some ((4, ()))
      else
       bif decide ((List.getD b2.2.1 t34.toNat (0, 0, 0, 0, 0, ())).2.2.2.2.1 > 255) then
        some ((4, ()))
       else
        Option.bind (single_bad_f nf ([(List.getD b2.2.1 t34.toNat (0, 0, 0, 0, 0, ())).2.1])) fun r3 =>
        bif r3.1 then
         some ((2, ()))
        else
         Option.bind (single_uses_f nf (List.getD b2.2.1 t34.toNat (0, 0, 0, 0, 0, ()))) fun r4 =>
         Option.bind (single_bad_f nf r4.1) fun r5 =>
         bif r5.1 then
          some ((2, ()))
         else
          g2 b3 (IntKind.i64.wrap (t34 + 1))
     else
      Option.bind (single_bad_f nf ([(List.getD b2.2.1 t34.toNat (0, 0, 0, 0, 0, ())).2.1])) fun r6 =>
      bif r6.1 then
       some ((2, ()))
      else
       Option.bind (single_uses_f nf (List.getD b2.2.1 t34.toNat (0, 0, 0, 0, 0, ()))) fun r7 =>
       Option.bind (single_bad_f nf r7.1) fun r8 =>
       bif r8.1 then
        some ((2, ()))
       else
        g2 b3 (IntKind.i64.wrap (t34 + 1))
  else
   none
 else
  bif decide (b3.2.2.1 ≥ 0) then
   Option.bind (single_bad_f nf ([b3.2.2.1])) fun r9 =>
   bif r9.1 then
    some ((2, ()))
   else
    Option.bind (single_bad_f nf b3.2.2.2.2.2.1) fun r10 =>
    bif r10.1 then
     some ((2, ()))
    else
     some ((0, ()))
  else
   Option.bind (single_bad_f nf b3.2.2.2.2.2.1) fun r11 =>
   bif r11.1 then
    some ((2, ()))
   else
    some ((0, ()))
def single_inside_p (_ : Nat) (l0 : List TZ21 × TStfn1 × Int × Int × Int × List Int × Unit → Int → List TZ21 × TStfn1 × Int × Int × Int × List Int × Unit → Int → Option (Int × Unit)) (b : List TZ21 × TStfn1 × Int × Int × Int × List Int × Unit) (from' : Int) : Option (Int × Unit) :=
 l0 b from' b 0
def single_inside_l2 (nf : Nat) (b b2 : List TZ21 × TStfn1 × Int × Int × Int × List Int × Unit) : Nat → List TZ21 × TStfn1 × Int × Int × Int × List Int × Unit → Int → Option (Int × Unit)
 | 0, _, _ => none
 | fu + 1, b3, t34 => single_inside_b2 nf b b2 (single_inside_l2 nf b b2 fu) b3 t34
def single_inside_l0 (nf : Nat) (b : List TZ21 × TStfn1 × Int × Int × Int × List Int × Unit) (from' : Int) : Nat → List TZ21 × TStfn1 × Int × Int × Int × List Int × Unit → Int → Option (Int × Unit)
 | 0, _, _ => none
 | fu + 1, b2, t12 => single_inside_b0 nf (fun _ p1 v0 v1 => single_inside_l2 nf b p1 nf v0 v1) b from' (single_inside_l0 nf b from' fu) b2 t12
def single_inside_f (nf : Nat) (b : List TZ21 × TStfn1 × Int × Int × Int × List Int × Unit) (from' : Int) : Option (Int × Unit) := single_inside_p nf (fun p0 p1 v0 v1 => single_inside_l0 nf p0 p1 nf v0 v1) b from'
def q111I (nf b : Nat) (L : LC (Int × Unit)) := LC.F tab (single_inside_phi nf) (fun _ F => iter nf F) single_inside_keep b L
def q111L0 (nf : Nat) : LC (Int × Unit) := theL (findL tab (single_inside_phi nf) (fun _ F => iter nf F) single_inside_keep 0 0 (codeOf Try.f78) (fin tab q111R (resL ([]) Try.f78)) (fun _ _ => none) (fin tab q111R (resL ([]) Try.f78)))
def q111m0 (b : List TZ21 × TStfn1 × Int × Int × Int × List Int × Unit) (from' : Int) (b2 : List TZ21 × TStfn1 × Int × Int × Int × List Int × Unit) (t12 : Int) : St := ⟨fresh, [(0, AV.v tZ11 mR1 b), (1, vI1 from'), (2, AV.box 2 500002 tZ11 mR1 b2), (9, AV.pl 2 2 [Stp.dr, Stp.fld 0]), (10, AV.v (iT1.pair (iT1.sl.pair Ty.unit)).sl mR1 b.1), (11, vI1 ((List.length b.1) : Int)), (12, vI1 t12)]⟩
def q111L2 (nf : Nat) : LC (Int × Unit) := theL (findL tab (single_inside_phi nf) (fun _ F => iter nf F) single_inside_keep 2 0 (codeOf Try.f78) (fin tab q111R (resL ([]) Try.f78)) (fun _ _ => none) (fin tab q111R (resL ([]) Try.f78)))
def q111m2 (b b2 b3 : List TZ21 × TStfn1 × Int × Int × Int × List Int × Unit) (t34 : Int) : St := ⟨fresh, [(0, AV.v tZ11 mR1 b), (2, AV.box 2 500002 tZ11 mR1 b3), (31, AV.pl 2 2 [Stp.dr, Stp.fld 1]), (32, AV.v tI5fn1.sl mR1 b2.2.1), (33, vI1 ((List.length b2.2.1) : Int)), (34, vI1 t34)]⟩
theorem q111h2 (nf : Nat) (b b2 : List TZ21 × TStfn1 × Int × Int × Int × List Int × Unit) (fu : Nat) (b3 : List TZ21 × TStfn1 × Int × Int × Int × List Int × Unit) (t34 : Int) : iter (fu + 1) (q111I nf 2 (q111L2 nf)) (q111m2 b b2 b3 t34) = single_inside_b2 nf b b2 (fun b3 t34 => iter fu (q111I nf 2 (q111L2 nf)) (q111m2 b b2 b3 t34)) b3 t34 := by kernel_rfl
theorem q111e2 (nf : Nat) (b b2 : List TZ21 × TStfn1 × Int × Int × Int × List Int × Unit) : ∀ (fu : Nat) (b3 : List TZ21 × TStfn1 × Int × Int × Int × List Int × Unit) (t34 : Int), iter fu (q111I nf 2 (q111L2 nf)) (q111m2 b b2 b3 t34) = single_inside_l2 nf b b2 fu b3 t34 := by
 intro fu
 induction fu with
 | zero => intros; rfl
 | succ fu ih =>
  intro b3 t34
  rw [q111h2 nf b b2 fu b3 t34]
  simp only [ih]
  rfl
theorem q111h0 (nf : Nat) (b : List TZ21 × TStfn1 × Int × Int × Int × List Int × Unit) (from' : Int) (fu : Nat) (b2 : List TZ21 × TStfn1 × Int × Int × Int × List Int × Unit) (t12 : Int) : iter (fu + 1) (q111I nf 0 (q111L0 nf)) (q111m0 b from' b2 t12) = single_inside_b0 nf (fun _ p1 v0 v1 => iter nf (q111I nf 2 (q111L2 nf)) (q111m2 b p1 v0 v1)) b from' (fun b2 t12 => iter fu (q111I nf 0 (q111L0 nf)) (q111m0 b from' b2 t12)) b2 t12 := by kernel_rfl
theorem q111e0 (nf : Nat) (b : List TZ21 × TStfn1 × Int × Int × Int × List Int × Unit) (from' : Int) : ∀ (fu : Nat) (b2 : List TZ21 × TStfn1 × Int × Int × Int × List Int × Unit) (t12 : Int), iter fu (q111I nf 0 (q111L0 nf)) (q111m0 b from' b2 t12) = single_inside_l0 nf b from' fu b2 t12 := by
 intro fu
 induction fu with
 | zero => intros; rfl
 | succ fu ih =>
  intro b2 t12
  rw [q111h0 nf b from' fu b2 t12]
  simp only [ih, q111e2]
  rfl
theorem single_inside_eq (nf : Nat) (b : List TZ21 × TStfn1 × Int × Int × Int × List Int × Unit) (from' : Int) : runF tab (single_inside_phi nf) single_inside_keep nf q111P q111R (resL ([]) Try.f78) (codeOf Try.f78) ⟨b, from', ()⟩ = single_inside_f nf b from' := by
 refine Eq.trans (b := single_inside_p nf (fun p0 p1 v0 v1 => iter nf (q111I nf 0 (q111L0 nf)) (q111m0 p0 p1 v0 v1)) b from') (by kernel_rfl) ?_
 simp only [q111e0]
 rfl
def single_inside_F (nf : Nat) (x : denPs q111P) : Option (denL q111R) := single_inside_f nf x.1 x.2.1
def single_inside_C (nf : Nat) : Contract := ⟨q111P, q111R, single_inside_F nf, []⟩
theorem single_inside_ok : FnOK Try.prog 78 := ⟨Try.f78, codeOf Try.f78, Try.func78, by kernel_rfl, by kernel_rfl⟩
theorem single_inside_holds (nf : Nat) : Contract.Holds Try.prog 78 (single_inside_C nf) :=
 fn_holds (Φ := single_inside_phi nf) (keep := single_inside_keep) (n := nf) ⟨tabs.1, tabs.2, (ctx_cons single_uses_ok (single_uses_holds nf) (ctx_cons single_bad_ok (single_bad_holds nf) ctx_nil)), mixed, bk_ok bkls rfl⟩ (fn := Try.f78) ⟨Try.func78, by kernel_rfl, by kernel_rfl, by kernel_rfl⟩ (fun x => single_inside_eq nf x.1 x.2.1)

/-! codemason single.Check -/
abbrev q112P : List PT := [.val (.int .i64) (.bor true false), .val (.sl (.pair (.sl (.pair (.int .i64) (.pair (.sl (.int .i64)) (.unit)))) (.pair (.sl tI5fn1) (.pair (.int .i64) (.pair (.int .i64) (.pair (.int .i64) (.pair (.sl (.int .i64)) (.unit)))))))) (.bor true false)]
abbrev q112R : List (Ty × Md) := [(.int .i64, .bor false true)]
def single_Check_phi (nf : Nat) : Nat → Option Contract := lookC [(41, block_Next_C nf), (42, single_bare_C nf), (44, single_From_C nf), (76, single_large_C nf), (77, single_Check_1_C nf), (78, single_inside_C nf)]
def single_Check_keep : Nat → List Nat := lookK [(2, [1, 3, 8, 65, 66, 67, 68]), (0, [0, 1, 3, 5, 15, 16, 17, 18])]
def single_Check_b0 (nf : Nat) (l2 : List TZ01 → List TZ01 → List TZ01 → List (List Int) → Int → Option (Int × Unit)) (vars : Int) (l' : List TZ01) (g0 : List TZ01 → Int → Option (Int × Unit)) (l'2 : List TZ01) (t18 : Int) : Option (Int × Unit) :=
 bif decide (t18 < (l'.length : Int)) then
  bif inb t18 l'.length then
   bif decide ((l'.getD t18.toNat ([], [], 0, 0, 0, [], ())).2.2.1 < (-1)) then
    some ((3, ()))
   else
    Option.bind (single_Check_1_f nf ((l'.getD t18.toNat ([], [], 0, 0, 0, [], ())).2.2.2.1) l'2) fun r2 =>
    bif !r2.1 then
     bif (l'.getD t18.toNat ([], [], 0, 0, 0, [], ())).2.2.2.1 != (-1) then
      some ((3, ()))
     else
      bif decide ((l'.getD t18.toNat ([], [], 0, 0, 0, [], ())).2.2.1 ≥ 0) then
       some ((3, ()))
      else
       bif decide ((l'.getD t18.toNat ([], [], 0, 0, 0, [], ())).2.2.1 ≥ 0) then
        Option.bind (single_Check_1_f nf ((l'.getD t18.toNat ([], [], 0, 0, 0, [], ())).2.2.2.2.1) l'2) fun r3 =>
        bif !r3.1 then
         some ((3, ()))
        else
         bif ((List.length (l'.getD t18.toNat ([], [], 0, 0, 0, [], ())).2.2.2.2.2.1) : Int) != vars then
          some ((3, ()))
         else
          g0 l'2 (IntKind.i64.wrap (t18 + 1))
       else
        bif ((List.length (l'.getD t18.toNat ([], [], 0, 0, 0, [], ())).2.2.2.2.2.1) : Int) != vars then
         some ((3, ()))
        else
         g0 l'2 (IntKind.i64.wrap (t18 + 1))
    else
     bif decide ((l'.getD t18.toNat ([], [], 0, 0, 0, [], ())).2.2.1 ≥ 0) then
      Option.bind (single_Check_1_f nf ((l'.getD t18.toNat ([], [], 0, 0, 0, [], ())).2.2.2.2.1) l'2) fun r4 =>
      bif !r4.1 then
       some ((3, ()))
      else
       bif ((List.length (l'.getD t18.toNat ([], [], 0, 0, 0, [], ())).2.2.2.2.2.1) : Int) != vars then
        some ((3, ()))
       else
        g0 l'2 (IntKind.i64.wrap (t18 + 1))
     else
      bif ((List.length (l'.getD t18.toNat ([], [], 0, 0, 0, [], ())).2.2.2.2.2.1) : Int) != vars then
       some ((3, ()))
      else
       g0 l'2 (IntKind.i64.wrap (t18 + 1))
  else
   none
 else
  Option.bind (single_bare_f nf l'2) fun r5 =>
  Option.bind (block_Next_f nf r5.1) fun r6 =>
  Option.bind (single_From_f nf r6.1) fun r7 =>
  l2 l' l'2 l'2 r7.1 0
def single_Check_b2 (nf : Nat) (l' l'2 : List TZ01) (g2 : List TZ01 → List (List Int) → Int → Option (Int × Unit)) (l'3 : List TZ01) (from' : List (List Int)) (t68 : Int) : Option (Int × Unit) :=
 bif decide (t68 < (l'2.length : Int)) then
  bif inb t68 l'2.length then
   bif inb t68 from'.length then
    Option.bind (single_inside_f nf (l'2.getD t68.toNat ([], [], 0, 0, 0, [], ())) (((List.length (from'.getD t68.toNat [])) : Int))) fun r8 =>
    bif r8.1 != 0 then
     some ((r8.1, ()))
    else
     g2 l'3 from' (IntKind.i64.wrap (t68 + 1))
   else
    none
  else
   none
 else
  some ((0, ()))
def single_Check_p (nf : Nat) (l0 : Int → List TZ01 → List TZ01 → Int → Option (Int × Unit)) (vars : Int) (l' : List TZ01) : Option (Int × Unit) :=
 Option.bind (single_large_f nf vars l') fun r =>
 bif r.1 then
  some ((1, ()))
 else
  l0 vars l' l' 0
def single_Check_l2 (nf : Nat) (l' l'2 : List TZ01) : Nat → List TZ01 → List (List Int) → Int → Option (Int × Unit)
 | 0, _, _, _ => none
 | fu + 1, l'3, from', t68 => single_Check_b2 nf l' l'2 (single_Check_l2 nf l' l'2 fu) l'3 from' t68
def single_Check_l0 (nf : Nat) (vars : Int) (l' : List TZ01) : Nat → List TZ01 → Int → Option (Int × Unit)
 | 0, _, _ => none
 | fu + 1, l'2, t18 => single_Check_b0 nf (fun _ p1 v0 v1 v2 => single_Check_l2 nf l' p1 nf v0 v1 v2) vars l' (single_Check_l0 nf vars l' fu) l'2 t18
def single_Check_f (nf : Nat) (vars : Int) (l' : List TZ01) : Option (Int × Unit) := single_Check_p nf (fun p0 p1 v0 v1 => single_Check_l0 nf p0 p1 nf v0 v1) vars l'
def q112I (nf b : Nat) (L : LC (Int × Unit)) := LC.F tab (single_Check_phi nf) (fun _ F => iter nf F) single_Check_keep b L
def q112L0 (nf : Nat) : LC (Int × Unit) := theL (findL tab (single_Check_phi nf) (fun _ F => iter nf F) single_Check_keep 0 0 (codeOf Try.f39) (fin tab q112R (resL ([]) Try.f39)) (fun _ _ => none) (fin tab q112R (resL ([]) Try.f39)))
def q112m0 (vars : Int) (l' l'2 : List TZ01) (t18 : Int) : St := ⟨fresh, [(0, vI1 vars), (1, AV.v tZ11.sl mR1 l'), (3, AV.box 3 500003 tZ11.sl mR1 l'2), (5, AV.clo 77 [AV.pl 3 3 [Stp.dr]]), (15, AV.clo 77 [AV.pl 3 3 [Stp.dr]]), (16, AV.v tZ11.sl mR1 l'), (17, vI1 (l'.length : Int)), (18, vI1 t18)]⟩
def q112L2 (nf : Nat) : LC (Int × Unit) := theL (findL tab (single_Check_phi nf) (fun _ F => iter nf F) single_Check_keep 2 0 (codeOf Try.f39) (fin tab q112R (resL ([]) Try.f39)) (fun _ _ => none) (fin tab q112R (resL ([]) Try.f39)))
def q112m2 (l' l'2 l'3 : List TZ01) (from' : List (List Int)) (t68 : Int) : St := ⟨fresh, [(1, AV.v tZ11.sl mR1 l'), (3, AV.box 3 500003 tZ11.sl mR1 l'3), (8, AV.ow 500008 iT1.sl.sl (Md.own false mL1) from'), (65, AV.dead), (66, AV.v tZ11.sl mR1 l'2), (67, vI1 (l'2.length : Int)), (68, vI1 t68)]⟩
theorem q112h2 (nf : Nat) (l' l'2 : List TZ01) (fu : Nat) (l'3 : List TZ01) (from' : List (List Int)) (t68 : Int) : iter (fu + 1) (q112I nf 2 (q112L2 nf)) (q112m2 l' l'2 l'3 from' t68) = single_Check_b2 nf l' l'2 (fun l'3 from' t68 => iter fu (q112I nf 2 (q112L2 nf)) (q112m2 l' l'2 l'3 from' t68)) l'3 from' t68 := by kernel_rfl
theorem q112e2 (nf : Nat) (l' l'2 : List TZ01) : ∀ (fu : Nat) (l'3 : List TZ01) (from' : List (List Int)) (t68 : Int), iter fu (q112I nf 2 (q112L2 nf)) (q112m2 l' l'2 l'3 from' t68) = single_Check_l2 nf l' l'2 fu l'3 from' t68 := by
 intro fu
 induction fu with
 | zero => intros; rfl
 | succ fu ih =>
  intro l'3 from' t68
  rw [q112h2 nf l' l'2 fu l'3 from' t68]
  simp only [ih]
  rfl
theorem q112h0 (nf : Nat) (vars : Int) (l' : List TZ01) (fu : Nat) (l'2 : List TZ01) (t18 : Int) : iter (fu + 1) (q112I nf 0 (q112L0 nf)) (q112m0 vars l' l'2 t18) = single_Check_b0 nf (fun _ p1 v0 v1 v2 => iter nf (q112I nf 2 (q112L2 nf)) (q112m2 l' p1 v0 v1 v2)) vars l' (fun l'2 t18 => iter fu (q112I nf 0 (q112L0 nf)) (q112m0 vars l' l'2 t18)) l'2 t18 := by kernel_rfl
theorem q112e0 (nf : Nat) (vars : Int) (l' : List TZ01) : ∀ (fu : Nat) (l'2 : List TZ01) (t18 : Int), iter fu (q112I nf 0 (q112L0 nf)) (q112m0 vars l' l'2 t18) = single_Check_l0 nf vars l' fu l'2 t18 := by
 intro fu
 induction fu with
 | zero => intros; rfl
 | succ fu ih =>
  intro l'2 t18
  rw [q112h0 nf vars l' fu l'2 t18]
  simp only [ih, q112e2]
  rfl
theorem single_Check_eq (nf : Nat) (vars : Int) (l' : List TZ01) : runF tab (single_Check_phi nf) single_Check_keep nf q112P q112R (resL ([]) Try.f39) (codeOf Try.f39) ⟨vars, l', ()⟩ = single_Check_f nf vars l' := by
 refine Eq.trans (b := single_Check_p nf (fun p0 p1 v0 v1 => iter nf (q112I nf 0 (q112L0 nf)) (q112m0 p0 p1 v0 v1)) vars l') (by kernel_rfl) ?_
 simp only [q112e0]
 rfl
def single_Check_F (nf : Nat) (x : denPs q112P) : Option (denL q112R) := single_Check_f nf x.1 x.2.1
def single_Check_C (nf : Nat) : Contract := ⟨q112P, q112R, single_Check_F nf, []⟩
theorem single_Check_ok : FnOK Try.prog 39 := ⟨Try.f39, codeOf Try.f39, Try.func39, by kernel_rfl, by kernel_rfl⟩
theorem single_Check_holds (nf : Nat) : Contract.Holds Try.prog 39 (single_Check_C nf) :=
 fn_holds (Φ := single_Check_phi nf) (keep := single_Check_keep) (n := nf) ⟨tabs.1, tabs.2, (ctx_cons block_Next_ok (block_Next_holds nf) (ctx_cons single_bare_ok (single_bare_holds nf) (ctx_cons single_From_ok (single_From_holds nf) (ctx_cons single_large_ok (single_large_holds nf) (ctx_cons single_Check_1_ok (single_Check_1_holds nf) (ctx_cons single_inside_ok (single_inside_holds nf) ctx_nil)))))), mixed, bk_ok bkls rfl⟩ (fn := Try.f39) ⟨Try.func39, by kernel_rfl, by kernel_rfl, by kernel_rfl⟩ (fun x => single_Check_eq nf x.1 x.2.1)

/-! codemason single.sets 1 -/
abbrev q113P : List PT := [.val (.int .i64) (.bor true false), .val (.int .i64) (.bor true false), .val (.int .i64) (.bor true false), .box (.mp (.int .i64) (.pair (.int .i64) (.pair (.int .i64) (.unit)))) (.own true (.bor false false)), .box (.bool) (.bor false true)]
abbrev q113R : List (Ty × Md) := [(.bx (.mp (.int .i64) (.pair (.int .i64) (.pair (.int .i64) (.unit)))), .own false (.own true (.bor false false))), (.bx (.bool), .own false (.bor false true))]
def single_sets_1_phi (_ : Nat) : Nat → Option Contract := lookC []
def single_sets_1_keep : Nat → List Nat := lookK []
def single_sets_1_p (_ : Nat) (n' i k' : Int) (c3 : List TZ31) (c4 : Bool) : Option (Option (List TZ31) × Option Bool × Unit) :=
 bif c4 then
  some ((some (insM iT1 tI2fn1 c3 n' (i, k', ())), some !(getM iT1 tI2fn1 c3 n').isSome, ()))
 else
  some ((some (insM iT1 tI2fn1 c3 n' (i, k', ())), some false, ()))
def single_sets_1_f (nf : Nat) (n' i k' : Int) (c3 : List TZ31) (c4 : Bool) : Option (Option (List TZ31) × Option Bool × Unit) := single_sets_1_p nf n' i k' c3 c4
theorem single_sets_1_eq (nf : Nat) (n' i k' : Int) (c3 : List TZ31) (c4 : Bool) : runF tab (single_sets_1_phi nf) single_sets_1_keep nf q113P q113R (resL ([3, 4]) Try.f79) (codeOf Try.f79) ⟨n', i, k', c3, c4, ()⟩ = single_sets_1_f nf n' i k' c3 c4 := by kernel_rfl
def single_sets_1_F (nf : Nat) (x : denPs q113P) : Option (denL q113R) := single_sets_1_f nf x.1 x.2.1 x.2.2.1 x.2.2.2.1 x.2.2.2.2.1
def single_sets_1_C (nf : Nat) : Contract := ⟨q113P, q113R, single_sets_1_F nf, [3, 4]⟩
theorem single_sets_1_ok : FnOK Try.prog 79 := ⟨Try.f79, codeOf Try.f79, Try.func79, by kernel_rfl, by kernel_rfl⟩
theorem single_sets_1_holds (nf : Nat) : Contract.Holds Try.prog 79 (single_sets_1_C nf) :=
 fn_holds (Φ := single_sets_1_phi nf) (keep := single_sets_1_keep) (n := nf) ⟨tabs.1, tabs.2, ctx_nil, mixed, bk_ok bkls rfl⟩ (fn := Try.f79) ⟨Try.func79, by kernel_rfl, by kernel_rfl, by kernel_rfl⟩ (fun x => single_sets_1_eq nf x.1 x.2.1 x.2.2.1 x.2.2.2.1 x.2.2.2.2.1)

/-! codemason single.sets -/
abbrev q114P : List PT := [.val (.int .i64) (.bor true false), .val (.sl (.pair (.sl (.pair (.int .i64) (.pair (.sl (.int .i64)) (.unit)))) (.pair (.sl tI5fn1) (.pair (.int .i64) (.pair (.int .i64) (.pair (.int .i64) (.pair (.sl (.int .i64)) (.unit)))))))) (.bor true false)]
abbrev q114R : List (Ty × Md) := [(.mp (.int .i64) (.pair (.int .i64) (.pair (.int .i64) (.unit))), .bor false false), (.bool, .bor false true)]
def single_sets_phi (nf : Nat) : Nat → Option Contract := lookC [(79, single_sets_1_C nf)]
def single_sets_keep : Nat → List Nat := lookK [(6, [1, 6, 8, 9, 10, 11, 25, 26, 27, 28, 46, 47, 48, 49]), (4, [1, 6, 8, 9, 10, 11, 25, 26, 27, 28, 33, 34, 35, 36]), (2, [1, 6, 8, 9, 25, 26, 27, 28]), (0, [1, 6, 17, 18])]
def single_sets_b0 (_ : Nat) (l2 : List TZ01 → List TZ31 → Bool → Int → Option (List TZ31 × Bool × Unit)) (l' : List TZ01) (vars : Int) (g0 : List TZ31 → Int → Option (List TZ31 × Bool × Unit)) (at' : List TZ31) (t18 : Int) : Option (List TZ31 × Bool × Unit) :=
 bif decide (t18 < vars) then
  g0 (insM iT1 tI2fn1 at' t18 (-1, 0, ())) (IntKind.i64.wrap (t18 + 1))
 else
  l2 l' at' true 0
def single_sets_b2 (_ : Nat) (l4 : List TZ01 → Int → List TZ31 → Bool → List TZ21 × TStfn1 × Int × Int × Int × List Int × Unit → Int → Option (List TZ31 × Bool × Unit)) (l' : List TZ01) (_ : List TZ31 → Bool → Int → Option (List TZ31 × Bool × Unit)) (at'2 : List TZ31) (ok : Bool) (t28 : Int) : Option (List TZ31 × Bool × Unit) :=
 bif decide (t28 < (l'.length : Int)) then
  bif inb t28 l'.length then
   l4 l' t28 at'2 ok (l'.getD t28.toNat ([], [], 0, 0, 0, [], ())) 0
  else
   none
 else
  some ((at'2, ok, ()))
def single_sets_b4 (nf : Nat) (l6 : List TZ01 → Int → List TZ21 × TStfn1 × Int × Int × Int × List Int × Unit → List TZ31 → Bool → List TZ21 × TStfn1 × Int × Int × Int × List Int × Unit → Int → Option (List TZ31 × Bool × Unit)) (l' : List TZ01) (t28 : Int) (_ : List TZ31 → Bool → Int → Option (List TZ31 × Bool × Unit)) (g4 : List TZ31 → Bool → List TZ21 × TStfn1 × Int × Int × Int × List Int × Unit → Int → Option (List TZ31 × Bool × Unit)) (at'3 : List TZ31) (ok2 : Bool) (b : List TZ21 × TStfn1 × Int × Int × Int × List Int × Unit) (t36 : Int) : Option (List TZ31 × Bool × Unit) :=
 bif decide (t36 < ((List.length (l'.getD t28.toNat ([], [], 0, 0, 0, [], ())).1) : Int)) then
  bif inb t36 (List.length (l'.getD t28.toNat ([], [], 0, 0, 0, [], ())).1) then
   Option.bind (single_sets_1_f nf ((List.getD (l'.getD t28.toNat ([], [], 0, 0, 0, [], ())).1 t36.toNat (0, [], ())).1) t28 (-1) at'3 ok2) fun r =>
   Option.bind r.1 fun r2 =>
   Option.bind r.2.1 fun r3 =>
   g4 r2 r3 b (IntKind.i64.wrap (t36 + 1))
  else
   none
 else
  l6 l' t28 b at'3 ok2 b 0
def single_sets_b6 (nf : Nat) (_ : List TZ01) (t28 : Int) (b : List TZ21 × TStfn1 × Int × Int × Int × List Int × Unit) (g2 : List TZ31 → Bool → Int → Option (List TZ31 × Bool × Unit)) (g6 : List TZ31 → Bool → List TZ21 × TStfn1 × Int × Int × Int × List Int × Unit → Int → Option (List TZ31 × Bool × Unit)) (at'4 : List TZ31) (ok3 : Bool) (b2 : List TZ21 × TStfn1 × Int × Int × Int × List Int × Unit) (t49 : Int) : Option (List TZ31 × Bool × Unit) :=
 bif decide (t49 < ((List.length b.2.1) : Int)) then
  bif inb t49 (List.length b.2.1) then
   Option.bind (single_sets_1_f nf ((List.getD b.2.1 t49.toNat (0, 0, 0, 0, 0, ())).2.1) t28 t49 at'4 ok3) fun r4 =>
   Option.bind r4.1 fun r5 =>
   Option.bind r4.2.1 fun r6 =>
   g6 r5 r6 b2 (IntKind.i64.wrap (t49 + 1))
  else
   none
 else
  g2 at'4 ok3 (IntKind.i64.wrap (t28 + 1))
def single_sets_p (_ : Nat) (l0 : List TZ01 → Int → List TZ31 → Int → Option (List TZ31 × Bool × Unit)) (vars : Int) (l' : List TZ01) : Option (List TZ31 × Bool × Unit) :=
 l0 l' vars [] 0
def single_sets_l6 (nf : Nat) (l' : List TZ01) (t28 : Int) (b : List TZ21 × TStfn1 × Int × Int × Int × List Int × Unit) (g2 : List TZ31 → Bool → Int → Option (List TZ31 × Bool × Unit)) : Nat → List TZ31 → Bool → List TZ21 × TStfn1 × Int × Int × Int × List Int × Unit → Int → Option (List TZ31 × Bool × Unit)
 | 0, _, _, _, _ => none
 | fu + 1, at'4, ok3, b2, t49 => single_sets_b6 nf l' t28 b g2 (single_sets_l6 nf l' t28 b g2 fu) at'4 ok3 b2 t49
def single_sets_l4 (nf : Nat) (l' : List TZ01) (t28 : Int) (g2 : List TZ31 → Bool → Int → Option (List TZ31 × Bool × Unit)) : Nat → List TZ31 → Bool → List TZ21 × TStfn1 × Int × Int × Int × List Int × Unit → Int → Option (List TZ31 × Bool × Unit)
 | 0, _, _, _, _ => none
 | fu + 1, at'3, ok2, b, t36 => single_sets_b4 nf (fun _ _ p2 v0 v1 v2 v3 => single_sets_l6 nf l' t28 p2 g2 nf v0 v1 v2 v3) l' t28 g2 (single_sets_l4 nf l' t28 g2 fu) at'3 ok2 b t36
def single_sets_l2 (nf : Nat) (l' : List TZ01) : Nat → List TZ31 → Bool → Int → Option (List TZ31 × Bool × Unit)
 | 0, _, _, _ => none
 | fu + 1, at'2, ok, t28 => single_sets_b2 nf (fun _ p1 v0 v1 v2 v3 => single_sets_l4 nf l' p1 (fun at'2 ok t28 => single_sets_l2 nf l' fu at'2 ok t28) nf v0 v1 v2 v3) l' (single_sets_l2 nf l' fu) at'2 ok t28
def single_sets_l0 (nf : Nat) (l' : List TZ01) (vars : Int) : Nat → List TZ31 → Int → Option (List TZ31 × Bool × Unit)
 | 0, _, _ => none
 | fu + 1, at', t18 => single_sets_b0 nf (fun _ v0 v1 v2 => single_sets_l2 nf l' nf v0 v1 v2) l' vars (single_sets_l0 nf l' vars fu) at' t18
def single_sets_f (nf : Nat) (vars : Int) (l' : List TZ01) : Option (List TZ31 × Bool × Unit) := single_sets_p nf (fun p0 p1 v0 v1 => single_sets_l0 nf p0 p1 nf v0 v1) vars l'
def q114I (nf b : Nat) (L : LC (List TZ31 × Bool × Unit)) := LC.F tab (single_sets_phi nf) (fun _ F => iter nf F) single_sets_keep b L
def q114L0 (nf : Nat) : LC (List TZ31 × Bool × Unit) := theL (findL tab (single_sets_phi nf) (fun _ F => iter nf F) single_sets_keep 0 0 (codeOf Try.f40) (fin tab q114R (resL ([]) Try.f40)) (fun _ _ => none) (fin tab q114R (resL ([]) Try.f40)))
def q114m0 (l' : List TZ01) (vars : Int) (at' : List TZ31) (t18 : Int) : St := ⟨fresh, [(1, AV.v tZ11.sl mR1 l'), (6, AV.box 6 500006 (iT1.mp tI2fn1) (Md.own true mL1) at'), (17, vI1 vars), (18, vI1 t18)]⟩
def q114L2 (nf : Nat) : LC (List TZ31 × Bool × Unit) := theL (findL tab (single_sets_phi nf) (fun _ F => iter nf F) single_sets_keep 2 0 (codeOf Try.f40) (fin tab q114R (resL ([]) Try.f40)) (fun _ _ => none) (fin tab q114R (resL ([]) Try.f40)))
def q114m2 (l' : List TZ01) (at'2 : List TZ31) (ok : Bool) (t28 : Int) : St := ⟨fresh, [(1, AV.v tZ11.sl mR1 l'), (6, AV.box 6 500006 (iT1.mp tI2fn1) (Md.own true mL1) at'2), (8, AV.box 8 500008 Ty.bool mF1 ok), (9, AV.clo 79 [AV.pl 6 6 [Stp.dr], AV.pl 8 8 [Stp.dr]]), (25, AV.clo 79 [AV.pl 6 6 [Stp.dr], AV.pl 8 8 [Stp.dr]]), (26, AV.v tZ11.sl mR1 l'), (27, vI1 (l'.length : Int)), (28, vI1 t28)]⟩
def q114L4 (nf : Nat) (G2 : St → Option (List TZ31 × Bool × Unit)) : LC (List TZ31 × Bool × Unit) := theL (findL tab (single_sets_phi nf) (fun _ F => iter nf F) single_sets_keep 4 2 (q114L2 nf).c (fun st => norm (single_sets_keep 2) st G2) (q114L2 nf).Kx (q114L2 nf).Kr)
def q114m4 (l' : List TZ01) (t28 : Int) (at'3 : List TZ31) (ok2 : Bool) (b : List TZ21 × TStfn1 × Int × Int × Int × List Int × Unit) (t36 : Int) : St := ⟨fresh, [(1, AV.v tZ11.sl mR1 l'), (6, AV.box 6 500006 (iT1.mp tI2fn1) (Md.own true mL1) at'3), (8, AV.box 8 500008 Ty.bool mF1 ok2), (9, AV.clo 79 [AV.pl 6 6 [Stp.dr], AV.pl 8 8 [Stp.dr]]), (10, vI1 t28), (11, AV.box 11 500011 tZ11 mR1 b), (25, AV.clo 79 [AV.pl 6 6 [Stp.dr], AV.pl 8 8 [Stp.dr]]), (26, AV.v tZ11.sl mR1 l'), (27, vI1 (l'.length : Int)), (28, vI1 t28), (33, AV.pl 11 11 [Stp.dr, Stp.fld 0]), (34, AV.v (iT1.pair (iT1.sl.pair Ty.unit)).sl mR1 (l'.getD t28.toNat ([], [], 0, 0, 0, [], ())).1), (35, vI1 ((List.length (l'.getD t28.toNat ([], [], 0, 0, 0, [], ())).1) : Int)), (36, vI1 t36)]⟩
def q114L6 (nf : Nat) (G2 : St → Option (List TZ31 × Bool × Unit)) : LC (List TZ31 × Bool × Unit) := theL (findL tab (single_sets_phi nf) (fun _ F => iter nf F) single_sets_keep 6 2 (q114L2 nf).c (fun st => norm (single_sets_keep 2) st G2) (q114L2 nf).Kx (q114L2 nf).Kr)
def q114m6 (l' : List TZ01) (t28 : Int) (b : List TZ21 × TStfn1 × Int × Int × Int × List Int × Unit) (at'4 : List TZ31) (ok3 : Bool) (b2 : List TZ21 × TStfn1 × Int × Int × Int × List Int × Unit) (t49 : Int) : St := ⟨fresh, [(1, AV.v tZ11.sl mR1 l'), (6, AV.box 6 500006 (iT1.mp tI2fn1) (Md.own true mL1) at'4), (8, AV.box 8 500008 Ty.bool mF1 ok3), (9, AV.clo 79 [AV.pl 6 6 [Stp.dr], AV.pl 8 8 [Stp.dr]]), (10, vI1 t28), (11, AV.box 11 500011 tZ11 mR1 b2), (25, AV.clo 79 [AV.pl 6 6 [Stp.dr], AV.pl 8 8 [Stp.dr]]), (26, AV.v tZ11.sl mR1 l'), (27, vI1 (l'.length : Int)), (28, vI1 t28), (46, AV.pl 11 11 [Stp.dr, Stp.fld 1]), (47, AV.v tI5fn1.sl mR1 b.2.1), (48, vI1 ((List.length b.2.1) : Int)), (49, vI1 t49)]⟩
theorem q114h6 (nf : Nat) (G2 : St → Option (List TZ31 × Bool × Unit)) (l' : List TZ01) (t28 : Int) (b : List TZ21 × TStfn1 × Int × Int × Int × List Int × Unit) (fu : Nat) (at'4 : List TZ31) (ok3 : Bool) (b2 : List TZ21 × TStfn1 × Int × Int × Int × List Int × Unit) (t49 : Int) : iter (fu + 1) (q114I nf 6 (q114L6 nf G2)) (q114m6 l' t28 b at'4 ok3 b2 t49) = single_sets_b6 nf l' t28 b (fun at'2 ok t28 => G2 (q114m2 l' at'2 ok t28)) (fun at'4 ok3 b2 t49 => iter fu (q114I nf 6 (q114L6 nf G2)) (q114m6 l' t28 b at'4 ok3 b2 t49)) at'4 ok3 b2 t49 := by kernel_rfl
theorem q114e6 (nf : Nat) (G2 : St → Option (List TZ31 × Bool × Unit)) (l' : List TZ01) (t28 : Int) (b : List TZ21 × TStfn1 × Int × Int × Int × List Int × Unit) : ∀ (fu : Nat) (at'4 : List TZ31) (ok3 : Bool) (b2 : List TZ21 × TStfn1 × Int × Int × Int × List Int × Unit) (t49 : Int), iter fu (q114I nf 6 (q114L6 nf G2)) (q114m6 l' t28 b at'4 ok3 b2 t49) = single_sets_l6 nf l' t28 b (fun at'2 ok t28 => G2 (q114m2 l' at'2 ok t28)) fu at'4 ok3 b2 t49 := by
 intro fu
 induction fu with
 | zero => intros; rfl
 | succ fu ih =>
  intro at'4 ok3 b2 t49
  rw [q114h6 nf G2 l' t28 b fu at'4 ok3 b2 t49]
  simp only [ih]
  rfl
theorem q114h4 (nf : Nat) (G2 : St → Option (List TZ31 × Bool × Unit)) (l' : List TZ01) (t28 : Int) (fu : Nat) (at'3 : List TZ31) (ok2 : Bool) (b : List TZ21 × TStfn1 × Int × Int × Int × List Int × Unit) (t36 : Int) : iter (fu + 1) (q114I nf 4 (q114L4 nf G2)) (q114m4 l' t28 at'3 ok2 b t36) = single_sets_b4 nf (fun _ _ p2 v0 v1 v2 v3 => iter nf (q114I nf 6 (q114L6 nf G2)) (q114m6 l' t28 p2 v0 v1 v2 v3)) l' t28 (fun at'2 ok t28 => G2 (q114m2 l' at'2 ok t28)) (fun at'3 ok2 b t36 => iter fu (q114I nf 4 (q114L4 nf G2)) (q114m4 l' t28 at'3 ok2 b t36)) at'3 ok2 b t36 := by kernel_rfl
theorem q114e4 (nf : Nat) (G2 : St → Option (List TZ31 × Bool × Unit)) (l' : List TZ01) (t28 : Int) : ∀ (fu : Nat) (at'3 : List TZ31) (ok2 : Bool) (b : List TZ21 × TStfn1 × Int × Int × Int × List Int × Unit) (t36 : Int), iter fu (q114I nf 4 (q114L4 nf G2)) (q114m4 l' t28 at'3 ok2 b t36) = single_sets_l4 nf l' t28 (fun at'2 ok t28 => G2 (q114m2 l' at'2 ok t28)) fu at'3 ok2 b t36 := by
 intro fu
 induction fu with
 | zero => intros; rfl
 | succ fu ih =>
  intro at'3 ok2 b t36
  rw [q114h4 nf G2 l' t28 fu at'3 ok2 b t36]
  simp only [ih, q114e6]
  rfl
theorem q114h2 (nf : Nat) (l' : List TZ01) (fu : Nat) (at'2 : List TZ31) (ok : Bool) (t28 : Int) : iter (fu + 1) (q114I nf 2 (q114L2 nf)) (q114m2 l' at'2 ok t28) = single_sets_b2 nf (fun _ p1 v0 v1 v2 v3 => iter nf (q114I nf 4 (q114L4 nf (iter fu (q114I nf 2 (q114L2 nf))))) (q114m4 l' p1 v0 v1 v2 v3)) l' (fun at'2 ok t28 => iter fu (q114I nf 2 (q114L2 nf)) (q114m2 l' at'2 ok t28)) at'2 ok t28 := by kernel_rfl
theorem q114e2 (nf : Nat) (l' : List TZ01) : ∀ (fu : Nat) (at'2 : List TZ31) (ok : Bool) (t28 : Int), iter fu (q114I nf 2 (q114L2 nf)) (q114m2 l' at'2 ok t28) = single_sets_l2 nf l' fu at'2 ok t28 := by
 intro fu
 induction fu with
 | zero => intros; rfl
 | succ fu ih =>
  intro at'2 ok t28
  rw [q114h2 nf l' fu at'2 ok t28]
  simp only [ih, q114e4]
  rfl
theorem q114h0 (nf : Nat) (l' : List TZ01) (vars : Int) (fu : Nat) (at' : List TZ31) (t18 : Int) : iter (fu + 1) (q114I nf 0 (q114L0 nf)) (q114m0 l' vars at' t18) = single_sets_b0 nf (fun _ v0 v1 v2 => iter nf (q114I nf 2 (q114L2 nf)) (q114m2 l' v0 v1 v2)) l' vars (fun at' t18 => iter fu (q114I nf 0 (q114L0 nf)) (q114m0 l' vars at' t18)) at' t18 := by kernel_rfl
theorem q114e0 (nf : Nat) (l' : List TZ01) (vars : Int) : ∀ (fu : Nat) (at' : List TZ31) (t18 : Int), iter fu (q114I nf 0 (q114L0 nf)) (q114m0 l' vars at' t18) = single_sets_l0 nf l' vars fu at' t18 := by
 intro fu
 induction fu with
 | zero => intros; rfl
 | succ fu ih =>
  intro at' t18
  rw [q114h0 nf l' vars fu at' t18]
  simp only [ih, q114e2]
  rfl
theorem single_sets_eq (nf : Nat) (vars : Int) (l' : List TZ01) : runF tab (single_sets_phi nf) single_sets_keep nf q114P q114R (resL ([]) Try.f40) (codeOf Try.f40) ⟨vars, l', ()⟩ = single_sets_f nf vars l' := by
 refine Eq.trans (b := single_sets_p nf (fun p0 p1 v0 v1 => iter nf (q114I nf 0 (q114L0 nf)) (q114m0 p0 p1 v0 v1)) vars l') (by kernel_rfl) ?_
 simp only [q114e0]
 rfl
def single_sets_F (nf : Nat) (x : denPs q114P) : Option (denL q114R) := single_sets_f nf x.1 x.2.1
def single_sets_C (nf : Nat) : Contract := ⟨q114P, q114R, single_sets_F nf, []⟩
theorem single_sets_ok : FnOK Try.prog 40 := ⟨Try.f40, codeOf Try.f40, Try.func40, by kernel_rfl, by kernel_rfl⟩
theorem single_sets_holds (nf : Nat) : Contract.Holds Try.prog 40 (single_sets_C nf) :=
 fn_holds (Φ := single_sets_phi nf) (keep := single_sets_keep) (n := nf) ⟨tabs.1, tabs.2, (ctx_cons single_sets_1_ok (single_sets_1_holds nf) ctx_nil), mixed, bk_ok bkls rfl⟩ (fn := Try.f40) ⟨Try.func40, by kernel_rfl, by kernel_rfl, by kernel_rfl⟩ (fun x => single_sets_eq nf x.1 x.2.1)

/-! codemason way.From -/
abbrev q115P : List PT := [.val (.sl (.sl (.int .i64))) (.bor true false), .val (.int .i64) (.bor true false), .val (.int .i64) (.bor true false)]
abbrev q115R : List (Ty × Md) := [(.int .u32, .bor false true)]
def way_From_phi (_ : Nat) : Nat → Option Contract := lookC []
def way_From_keep : Nat → List Nat := lookK [(2, [0, 2, 7, 8, 17, 21, 22, 23, 27, 28, 29, 30]), (0, [0, 2, 7, 8, 17, 21, 22])]
def way_From_b0 (_ : Nat) (l2 : List (List Int) → Int → List Int → Int → List Int → Int → Option (Int × Unit)) (next : List (List Int)) (without : Int) (_ : Int → List Int → Option (Int × Unit)) (set' : Int) (queue : List Int) : Option (Int × Unit) :=
 bif decide ((queue.length : Int) > 0) then
  bif inb 0 queue.length then
   bif inb (queue.getD 0 0) next.length then
    l2 next without queue set' queue 0
   else
    none
  else
   none
 else
  some ((set', ()))
def way_From_b2 (_ : Nat) (next : List (List Int)) (without : Int) (queue : List Int) (g0 : Int → List Int → Option (Int × Unit)) (g2 : Int → List Int → Int → Option (Int × Unit)) (set'2 : Int) (queue2 : List Int) (t30 : Int) : Option (Int × Unit) :=
 bif decide (t30 < ((List.length (next.getD (Int.toNat (queue.getD 0 0)) [])) : Int)) then
  bif inb t30 (List.length (next.getD (Int.toNat (queue.getD 0 0)) [])) then
   bif List.getD (next.getD (Int.toNat (queue.getD 0 0)) []) t30.toNat 0 != without then
    bif decide (0 ≤ List.getD (next.getD (Int.toNat (queue.getD 0 0)) []) t30.toNat 0) then
     bif IntKind.u32.wrap ((BitVec.ofInt IntKind.u32.bits (shrI IntKind.u32 set'2 (List.getD (next.getD (Int.toNat (queue.getD 0 0)) []) t30.toNat 0)) &&& BitVec.ofInt IntKind.u32.bits 1).toNat : Int) == 0 then
      bif decide (0 ≤ List.getD (next.getD (Int.toNat (queue.getD 0 0)) []) t30.toNat 0) then
       bif bimp false ![List.getD (next.getD (Int.toNat (queue.getD 0 0)) []) t30.toNat 0].isEmpty && (queue2.length + [List.getD (next.getD (Int.toNat (queue.getD 0 0)) []) t30.toNat 0].length).ble lim then
        g2 (IntKind.u32.wrap ((BitVec.ofInt IntKind.u32.bits set'2 ||| BitVec.ofInt IntKind.u32.bits (shlI IntKind.u32 1 (List.getD (next.getD (Int.toNat (queue.getD 0 0)) []) t30.toNat 0))).toNat : Int)) (queue2 ++ [List.getD (next.getD (Int.toNat (queue.getD 0 0)) []) t30.toNat 0]) (IntKind.i64.wrap (t30 + 1))
       else
        none
      else
       none
     else
      g2 set'2 queue2 (IntKind.i64.wrap (t30 + 1))
    else
     none
   else
    g2 set'2 queue2 (IntKind.i64.wrap (t30 + 1))
  else
   none
 else
  bif decide (0 ≤ 1) && decide (1 ≤ (queue2.length : Int)) && decide ((queue2.length : Int) ≤ (queue2.length : Int)) then
   g0 set'2 (List.take ((queue2.length : Int) - 1).toNat (List.drop 1 queue2))
  else
   none
def way_From_p (_ : Nat) (l0 : List (List Int) → Int → Int → List Int → Option (Int × Unit)) (next : List (List Int)) (i without : Int) : Option (Int × Unit) :=
 bif i == without then
  some ((0, ()))
 else
  bif decide (0 ≤ i) then
   l0 next without (shlI IntKind.u32 1 i) [i]
  else
   none
def way_From_l2 (nf : Nat) (next : List (List Int)) (without : Int) (queue : List Int) (g0 : Int → List Int → Option (Int × Unit)) : Nat → Int → List Int → Int → Option (Int × Unit)
 | 0, _, _, _ => none
 | fu + 1, set'2, queue2, t30 => way_From_b2 nf next without queue g0 (way_From_l2 nf next without queue g0 fu) set'2 queue2 t30
def way_From_l0 (nf : Nat) (next : List (List Int)) (without : Int) : Nat → Int → List Int → Option (Int × Unit)
 | 0, _, _ => none
 | fu + 1, set', queue => way_From_b0 nf (fun _ _ p2 v0 v1 v2 => way_From_l2 nf next without p2 (fun set' queue => way_From_l0 nf next without fu set' queue) nf v0 v1 v2) next without (way_From_l0 nf next without fu) set' queue
def way_From_f (nf : Nat) (next : List (List Int)) (i without : Int) : Option (Int × Unit) := way_From_p nf (fun p0 p1 v0 v1 => way_From_l0 nf p0 p1 nf v0 v1) next i without
def q115I (nf b : Nat) (L : LC (Int × Unit)) := LC.F tab (way_From_phi nf) (fun _ F => iter nf F) way_From_keep b L
def q115L0 (nf : Nat) : LC (Int × Unit) := theL (findL tab (way_From_phi nf) (fun _ F => iter nf F) way_From_keep 0 0 (codeOf Try.f80) (fin tab q115R (resL ([]) Try.f80)) (fun _ _ => none) (fin tab q115R (resL ([]) Try.f80)))
def q115m0 (next : List (List Int)) (without set' : Int) (queue : List Int) : St := ⟨fresh, [(0, AV.v iT1.sl.sl mR1 next), (2, vI1 without), (7, AV.v uT1 mF1 set'), (8, AV.ow 500008 iT1.sl (Md.own false mL1) queue), (17, AV.dead), (21, AV.dead), (22, AV.dead)]⟩
def q115L2 (nf : Nat) (G0 : St → Option (Int × Unit)) : LC (Int × Unit) := theL (findL tab (way_From_phi nf) (fun _ F => iter nf F) way_From_keep 2 0 (q115L0 nf).c (fun st => norm (way_From_keep 0) st G0) (q115L0 nf).Kx (q115L0 nf).Kr)
def q115m2 (next : List (List Int)) (without : Int) (queue : List Int) (set'2 : Int) (queue2 : List Int) (t30 : Int) : St := ⟨fresh, [(0, AV.v iT1.sl.sl mR1 next), (2, vI1 without), (7, AV.v uT1 mF1 set'2), (8, AV.ow 500008 iT1.sl (Md.own false mL1) queue2), (17, AV.dead), (21, AV.dead), (22, AV.dead), (23, AV.v iT1.sl.sl mR1 next), (27, AV.rop iT1.sl mR1 (next.getD (Int.toNat (queue.getD 0 0)) [])), (28, AV.v iT1.sl mR1 (next.getD (Int.toNat (queue.getD 0 0)) [])), (29, vI1 ((List.length (next.getD (Int.toNat (queue.getD 0 0)) [])) : Int)), (30, vI1 t30)]⟩
theorem q115h2 (nf : Nat) (G0 : St → Option (Int × Unit)) (next : List (List Int)) (without : Int) (queue : List Int) (fu : Nat) (set'2 : Int) (queue2 : List Int) (t30 : Int) : iter (fu + 1) (q115I nf 2 (q115L2 nf G0)) (q115m2 next without queue set'2 queue2 t30) = way_From_b2 nf next without queue (fun set' queue => G0 (q115m0 next without set' queue)) (fun set'2 queue2 t30 => iter fu (q115I nf 2 (q115L2 nf G0)) (q115m2 next without queue set'2 queue2 t30)) set'2 queue2 t30 := by kernel_rfl
theorem q115e2 (nf : Nat) (G0 : St → Option (Int × Unit)) (next : List (List Int)) (without : Int) (queue : List Int) : ∀ (fu : Nat) (set'2 : Int) (queue2 : List Int) (t30 : Int), iter fu (q115I nf 2 (q115L2 nf G0)) (q115m2 next without queue set'2 queue2 t30) = way_From_l2 nf next without queue (fun set' queue => G0 (q115m0 next without set' queue)) fu set'2 queue2 t30 := by
 intro fu
 induction fu with
 | zero => intros; rfl
 | succ fu ih =>
  intro set'2 queue2 t30
  rw [q115h2 nf G0 next without queue fu set'2 queue2 t30]
  simp only [ih]
  rfl
theorem q115h0 (nf : Nat) (next : List (List Int)) (without : Int) (fu : Nat) (set' : Int) (queue : List Int) : iter (fu + 1) (q115I nf 0 (q115L0 nf)) (q115m0 next without set' queue) = way_From_b0 nf (fun _ _ p2 v0 v1 v2 => iter nf (q115I nf 2 (q115L2 nf (iter fu (q115I nf 0 (q115L0 nf))))) (q115m2 next without p2 v0 v1 v2)) next without (fun set' queue => iter fu (q115I nf 0 (q115L0 nf)) (q115m0 next without set' queue)) set' queue := by kernel_rfl
theorem q115e0 (nf : Nat) (next : List (List Int)) (without : Int) : ∀ (fu : Nat) (set' : Int) (queue : List Int), iter fu (q115I nf 0 (q115L0 nf)) (q115m0 next without set' queue) = way_From_l0 nf next without fu set' queue := by
 intro fu
 induction fu with
 | zero => intros; rfl
 | succ fu ih =>
  intro set' queue
  rw [q115h0 nf next without fu set' queue]
  simp only [ih, q115e2]
  rfl
theorem way_From_eq (nf : Nat) (next : List (List Int)) (i without : Int) : runF tab (way_From_phi nf) way_From_keep nf q115P q115R (resL ([]) Try.f80) (codeOf Try.f80) ⟨next, i, without, ()⟩ = way_From_f nf next i without := by
 refine Eq.trans (b := way_From_p nf (fun p0 p1 v0 v1 => iter nf (q115I nf 0 (q115L0 nf)) (q115m0 p0 p1 v0 v1)) next i without) (by kernel_rfl) ?_
 simp only [q115e0]
 rfl
def way_From_F (nf : Nat) (x : denPs q115P) : Option (denL q115R) := way_From_f nf x.1 x.2.1 x.2.2.1
def way_From_C (nf : Nat) : Contract := ⟨q115P, q115R, way_From_F nf, []⟩
theorem way_From_ok : FnOK Try.prog 80 := ⟨Try.f80, codeOf Try.f80, Try.func80, by kernel_rfl, by kernel_rfl⟩
theorem way_From_holds (nf : Nat) : Contract.Holds Try.prog 80 (way_From_C nf) :=
 fn_holds (Φ := way_From_phi nf) (keep := way_From_keep) (n := nf) ⟨tabs.1, tabs.2, ctx_nil, mixed, bk_ok bkls rfl⟩ (fn := Try.f80) ⟨Try.func80, by kernel_rfl, by kernel_rfl, by kernel_rfl⟩ (fun x => way_From_eq nf x.1 x.2.1 x.2.2.1)

/-! codemason rule.Rules -/
abbrev q116P : List PT := [.val (.sl (.sl (.int .i64))) (.bor true false)]
abbrev q116R : List (Ty × Md) := [(.sl (.int .u32), .own false (.bor false false))]
def rule_Rules_phi (nf : Nat) : Nat → Option Contract := lookC [(80, way_From_C nf)]
def rule_Rules_keep : Nat → List Nat := lookK [(6, [0, 3, 4, 6, 7, 8, 16, 35, 36, 37, 40, 41, 47, 48, 49]), (4, [0, 3, 4, 6, 16, 35, 36, 37]), (2, [0, 3, 4, 6, 16]), (0, [0, 3, 4, 16, 18, 19])]
def rule_Rules_b0 (_ : Nat) (l2 : List (List Int) → Int × Unit → List Int → Bool → Option (List Int × Unit)) (next : List (List Int)) (r : Int × Unit) (g0 : List Int → Int → Option (List Int × Unit)) (rules : List Int) (t19 : Int) : Option (List Int × Unit) :=
 bif decide (t19 < ((List.replicate (next.length : Int).toNat (0 : Int)).length : Int)) then
  bif decide (0 ≤ t19) then
   bif IntKind.u32.wrap ((BitVec.ofInt IntKind.u32.bits (shrI IntKind.u32 r.1 t19) &&& BitVec.ofInt IntKind.u32.bits 1).toNat : Int) == 1 then
    bif inb t19 rules.length then
     g0 (rules.set t19.toNat r.1) (IntKind.i64.wrap (t19 + 1))
    else
     none
   else
    g0 rules (IntKind.i64.wrap (t19 + 1))
  else
   none
 else
  bif inb 0 rules.length then
   l2 next r (rules.set 0 1) true
  else
   none
def rule_Rules_b2 (_ : Nat) (l4 : List (List Int) → Int × Unit → List Int → Bool → Int → Option (List Int × Unit)) (next : List (List Int)) (r : Int × Unit) (_ : List Int → Bool → Option (List Int × Unit)) (rules2 : List Int) (more : Bool) : Option (List Int × Unit) :=
 bif more then
  l4 next r rules2 false 0
 else
  some ((rules2, ()))
def rule_Rules_b4 (_ : Nat) (l6 : List (List Int) → Int × Unit → Int → List Int → Bool → Int → Option (List Int × Unit)) (next : List (List Int)) (r : Int × Unit) (g2 : List Int → Bool → Option (List Int × Unit)) (g4 : List Int → Bool → Int → Option (List Int × Unit)) (rules3 : List Int) (more2 : Bool) (t37 : Int) : Option (List Int × Unit) :=
 bif decide (t37 < (next.length : Int)) then
  bif inb t37 next.length then
   bif decide (0 ≤ t37) then
    bif IntKind.u32.wrap ((BitVec.ofInt IntKind.u32.bits (shrI IntKind.u32 r.1 t37) &&& BitVec.ofInt IntKind.u32.bits 1).toNat : Int) == 0 then
     g4 rules3 more2 (IntKind.i64.wrap (t37 + 1))
    else
     l6 next r t37 rules3 more2 0
   else
    none
  else
   none
 else
  g2 rules3 more2
def rule_Rules_b6 (_ : Nat) (next : List (List Int)) (_ : Int × Unit) (t37 : Int) (g4 : List Int → Bool → Int → Option (List Int × Unit)) (_ : List Int → Bool → Option (List Int × Unit)) (g6 : List Int → Bool → Int → Option (List Int × Unit)) (rules4 : List Int) (more3 : Bool) (t49 : Int) : Option (List Int × Unit) :=
 bif decide (t49 < ((List.length (next.getD t37.toNat [])) : Int)) then
  bif inb t49 (List.length (next.getD t37.toNat [])) then
   bif inb (List.getD (next.getD t37.toNat []) t49.toNat 0) rules4.length then
    bif inb t37 rules4.length then
     bif decide (0 ≤ List.getD (next.getD t37.toNat []) t49.toNat 0) then
      bif inb (List.getD (next.getD t37.toNat []) t49.toNat 0) rules4.length then
       bif IntKind.u32.wrap ((BitVec.ofInt IntKind.u32.bits (rules4.getD (Int.toNat (List.getD (next.getD t37.toNat []) t49.toNat 0)) 0) &&& BitVec.ofInt IntKind.u32.bits (IntKind.u32.wrap ((BitVec.ofInt IntKind.u32.bits (rules4.getD t37.toNat 0) ||| BitVec.ofInt IntKind.u32.bits (shlI IntKind.u32 1 (List.getD (next.getD t37.toNat []) t49.toNat 0))).toNat : Int))).toNat : Int) != rules4.getD (Int.toNat (List.getD (next.getD t37.toNat []) t49.toNat 0)) 0 then
        bif inb (List.getD (next.getD t37.toNat []) t49.toNat 0) rules4.length then
         g6 (rules4.set (Int.toNat (List.getD (next.getD t37.toNat []) t49.toNat 0)) (IntKind.u32.wrap ((BitVec.ofInt IntKind.u32.bits (rules4.getD (Int.toNat (List.getD (next.getD t37.toNat []) t49.toNat 0)) 0) &&& BitVec.ofInt IntKind.u32.bits (IntKind.u32.wrap ((BitVec.ofInt IntKind.u32.bits (rules4.getD t37.toNat 0) ||| BitVec.ofInt IntKind.u32.bits (shlI IntKind.u32 1 (List.getD (next.getD t37.toNat []) t49.toNat 0))).toNat : Int))).toNat : Int))) true (IntKind.i64.wrap (t49 + 1))
        else
         none
       else
        g6 rules4 more3 (IntKind.i64.wrap (t49 + 1))
      else
       none
     else
      none
    else
     none
   else
    none
  else
   none
 else
  g4 rules4 more3 (IntKind.i64.wrap (t37 + 1))
def rule_Rules_p (nf : Nat) (l0 : List (List Int) → Int × Unit → List Int → Int → Option (List Int × Unit)) (next : List (List Int)) : Option (List Int × Unit) :=
 Option.bind (way_From_f nf next 0 (-1)) fun r =>
 bif decide (0 ≤ (next.length : Int)) && decide ((next.length : Int) ≤ (next.length : Int)) && decide ((next.length : Int) ≤ (lim : Int)) then
  l0 next r (List.replicate (next.length : Int).toNat 0) 0
 else
  none
def rule_Rules_l6 (nf : Nat) (next : List (List Int)) (r : Int × Unit) (t37 : Int) (g4 : List Int → Bool → Int → Option (List Int × Unit)) (g2 : List Int → Bool → Option (List Int × Unit)) : Nat → List Int → Bool → Int → Option (List Int × Unit)
 | 0, _, _, _ => none
 | fu + 1, rules4, more3, t49 => rule_Rules_b6 nf next r t37 g4 g2 (rule_Rules_l6 nf next r t37 g4 g2 fu) rules4 more3 t49
def rule_Rules_l4 (nf : Nat) (next : List (List Int)) (r : Int × Unit) (g2 : List Int → Bool → Option (List Int × Unit)) : Nat → List Int → Bool → Int → Option (List Int × Unit)
 | 0, _, _, _ => none
 | fu + 1, rules3, more2, t37 => rule_Rules_b4 nf (fun _ _ p2 v0 v1 v2 => rule_Rules_l6 nf next r p2 (fun rules3 more2 t37 => rule_Rules_l4 nf next r g2 fu rules3 more2 t37) g2 nf v0 v1 v2) next r g2 (rule_Rules_l4 nf next r g2 fu) rules3 more2 t37
def rule_Rules_l2 (nf : Nat) (next : List (List Int)) (r : Int × Unit) : Nat → List Int → Bool → Option (List Int × Unit)
 | 0, _, _ => none
 | fu + 1, rules2, more => rule_Rules_b2 nf (fun _ _ v0 v1 v2 => rule_Rules_l4 nf next r (fun rules2 more => rule_Rules_l2 nf next r fu rules2 more) nf v0 v1 v2) next r (rule_Rules_l2 nf next r fu) rules2 more
def rule_Rules_l0 (nf : Nat) (next : List (List Int)) (r : Int × Unit) : Nat → List Int → Int → Option (List Int × Unit)
 | 0, _, _ => none
 | fu + 1, rules, t19 => rule_Rules_b0 nf (fun _ _ v0 v1 => rule_Rules_l2 nf next r nf v0 v1) next r (rule_Rules_l0 nf next r fu) rules t19
def rule_Rules_f (nf : Nat) (next : List (List Int)) : Option (List Int × Unit) := rule_Rules_p nf (fun p0 p1 v0 v1 => rule_Rules_l0 nf p0 p1 nf v0 v1) next
def q116I (nf b : Nat) (L : LC (List Int × Unit)) := LC.F tab (rule_Rules_phi nf) (fun _ F => iter nf F) rule_Rules_keep b L
def q116L0 (nf : Nat) : LC (List Int × Unit) := theL (findL tab (rule_Rules_phi nf) (fun _ F => iter nf F) rule_Rules_keep 0 0 (codeOf Try.f43) (fin tab q116R (resL ([]) Try.f43)) (fun _ _ => none) (fin tab q116R (resL ([]) Try.f43)))
def q116m0 (next : List (List Int)) (r : Int × Unit) (rules : List Int) (t19 : Int) : St := ⟨fresh, [(0, AV.v iT1.sl.sl mR1 next), (3, AV.v uT1 mF1 r.1), (4, AV.ow 500004 uT1.sl (Md.own false mL1) rules), (16, AV.dead), (18, vI1 ((List.replicate (next.length : Int).toNat (0 : Int)).length : Int)), (19, vI1 t19)]⟩
def q116L2 (nf : Nat) : LC (List Int × Unit) := theL (findL tab (rule_Rules_phi nf) (fun _ F => iter nf F) rule_Rules_keep 2 0 (codeOf Try.f43) (fin tab q116R (resL ([]) Try.f43)) (fun _ _ => none) (fin tab q116R (resL ([]) Try.f43)))
def q116m2 (next : List (List Int)) (r : Int × Unit) (rules2 : List Int) (more : Bool) : St := ⟨fresh, [(0, AV.v iT1.sl.sl mR1 next), (3, AV.v uT1 mF1 r.1), (4, AV.ow 500004 uT1.sl (Md.own false mL1) rules2), (6, AV.v Ty.bool mF1 more), (16, AV.dead)]⟩
def q116L4 (nf : Nat) (G2 : St → Option (List Int × Unit)) : LC (List Int × Unit) := theL (findL tab (rule_Rules_phi nf) (fun _ F => iter nf F) rule_Rules_keep 4 2 (q116L2 nf).c (fun st => norm (rule_Rules_keep 2) st G2) (q116L2 nf).Kx (q116L2 nf).Kr)
def q116m4 (next : List (List Int)) (r : Int × Unit) (rules3 : List Int) (more2 : Bool) (t37 : Int) : St := ⟨fresh, [(0, AV.v iT1.sl.sl mR1 next), (3, AV.v uT1 mF1 r.1), (4, AV.ow 500004 uT1.sl (Md.own false mL1) rules3), (6, AV.v Ty.bool mF1 more2), (16, AV.dead), (35, AV.v iT1.sl.sl mR1 next), (36, vI1 (next.length : Int)), (37, vI1 t37)]⟩
def q116L6 (nf : Nat) (G2 G4 : St → Option (List Int × Unit)) : LC (List Int × Unit) := theL (findL tab (rule_Rules_phi nf) (fun _ F => iter nf F) rule_Rules_keep 6 4 (q116L4 nf G2).c (fun st => norm (rule_Rules_keep 4) st G4) (q116L4 nf G2).Kx (q116L4 nf G2).Kr)
def q116m6 (next : List (List Int)) (r : Int × Unit) (t37 : Int) (rules4 : List Int) (more3 : Bool) (t49 : Int) : St := ⟨fresh, [(0, AV.v iT1.sl.sl mR1 next), (3, AV.v uT1 mF1 r.1), (4, AV.ow 500004 uT1.sl (Md.own false mL1) rules4), (6, AV.v Ty.bool mF1 more3), (7, vI1 t37), (8, AV.v iT1.sl mR1 (next.getD t37.toNat [])), (16, AV.dead), (35, AV.v iT1.sl.sl mR1 next), (36, vI1 (next.length : Int)), (37, vI1 t37), (40, AV.rop iT1.sl mR1 (next.getD t37.toNat [])), (41, AV.v iT1.sl mR1 (next.getD t37.toNat [])), (47, AV.v iT1.sl mR1 (next.getD t37.toNat [])), (48, vI1 ((List.length (next.getD t37.toNat [])) : Int)), (49, vI1 t49)]⟩
theorem q116h6 (nf : Nat) (G2 G4 : St → Option (List Int × Unit)) (next : List (List Int)) (r : Int × Unit) (t37 : Int) (fu : Nat) (rules4 : List Int) (more3 : Bool) (t49 : Int) : iter (fu + 1) (q116I nf 6 (q116L6 nf G2 G4)) (q116m6 next r t37 rules4 more3 t49) = rule_Rules_b6 nf next r t37 (fun rules3 more2 t37 => G4 (q116m4 next r rules3 more2 t37)) (fun rules2 more => G2 (q116m2 next r rules2 more)) (fun rules4 more3 t49 => iter fu (q116I nf 6 (q116L6 nf G2 G4)) (q116m6 next r t37 rules4 more3 t49)) rules4 more3 t49 := by kernel_rfl
theorem q116e6 (nf : Nat) (G2 G4 : St → Option (List Int × Unit)) (next : List (List Int)) (r : Int × Unit) (t37 : Int) : ∀ (fu : Nat) (rules4 : List Int) (more3 : Bool) (t49 : Int), iter fu (q116I nf 6 (q116L6 nf G2 G4)) (q116m6 next r t37 rules4 more3 t49) = rule_Rules_l6 nf next r t37 (fun rules3 more2 t37 => G4 (q116m4 next r rules3 more2 t37)) (fun rules2 more => G2 (q116m2 next r rules2 more)) fu rules4 more3 t49 := by
 intro fu
 induction fu with
 | zero => intros; rfl
 | succ fu ih =>
  intro rules4 more3 t49
  rw [q116h6 nf G2 G4 next r t37 fu rules4 more3 t49]
  simp only [ih]
  rfl
theorem q116h4 (nf : Nat) (G2 : St → Option (List Int × Unit)) (next : List (List Int)) (r : Int × Unit) (fu : Nat) (rules3 : List Int) (more2 : Bool) (t37 : Int) : iter (fu + 1) (q116I nf 4 (q116L4 nf G2)) (q116m4 next r rules3 more2 t37) = rule_Rules_b4 nf (fun _ _ p2 v0 v1 v2 => iter nf (q116I nf 6 (q116L6 nf G2 (iter fu (q116I nf 4 (q116L4 nf G2))))) (q116m6 next r p2 v0 v1 v2)) next r (fun rules2 more => G2 (q116m2 next r rules2 more)) (fun rules3 more2 t37 => iter fu (q116I nf 4 (q116L4 nf G2)) (q116m4 next r rules3 more2 t37)) rules3 more2 t37 := by kernel_rfl
theorem q116e4 (nf : Nat) (G2 : St → Option (List Int × Unit)) (next : List (List Int)) (r : Int × Unit) : ∀ (fu : Nat) (rules3 : List Int) (more2 : Bool) (t37 : Int), iter fu (q116I nf 4 (q116L4 nf G2)) (q116m4 next r rules3 more2 t37) = rule_Rules_l4 nf next r (fun rules2 more => G2 (q116m2 next r rules2 more)) fu rules3 more2 t37 := by
 intro fu
 induction fu with
 | zero => intros; rfl
 | succ fu ih =>
  intro rules3 more2 t37
  rw [q116h4 nf G2 next r fu rules3 more2 t37]
  simp only [ih, q116e6]
  rfl
theorem q116h2 (nf : Nat) (next : List (List Int)) (r : Int × Unit) (fu : Nat) (rules2 : List Int) (more : Bool) : iter (fu + 1) (q116I nf 2 (q116L2 nf)) (q116m2 next r rules2 more) = rule_Rules_b2 nf (fun _ _ v0 v1 v2 => iter nf (q116I nf 4 (q116L4 nf (iter fu (q116I nf 2 (q116L2 nf))))) (q116m4 next r v0 v1 v2)) next r (fun rules2 more => iter fu (q116I nf 2 (q116L2 nf)) (q116m2 next r rules2 more)) rules2 more := by kernel_rfl
theorem q116e2 (nf : Nat) (next : List (List Int)) (r : Int × Unit) : ∀ (fu : Nat) (rules2 : List Int) (more : Bool), iter fu (q116I nf 2 (q116L2 nf)) (q116m2 next r rules2 more) = rule_Rules_l2 nf next r fu rules2 more := by
 intro fu
 induction fu with
 | zero => intros; rfl
 | succ fu ih =>
  intro rules2 more
  rw [q116h2 nf next r fu rules2 more]
  simp only [ih, q116e4]
  rfl
theorem q116h0 (nf : Nat) (next : List (List Int)) (r : Int × Unit) (fu : Nat) (rules : List Int) (t19 : Int) : iter (fu + 1) (q116I nf 0 (q116L0 nf)) (q116m0 next r rules t19) = rule_Rules_b0 nf (fun _ _ v0 v1 => iter nf (q116I nf 2 (q116L2 nf)) (q116m2 next r v0 v1)) next r (fun rules t19 => iter fu (q116I nf 0 (q116L0 nf)) (q116m0 next r rules t19)) rules t19 := by kernel_rfl
theorem q116e0 (nf : Nat) (next : List (List Int)) (r : Int × Unit) : ∀ (fu : Nat) (rules : List Int) (t19 : Int), iter fu (q116I nf 0 (q116L0 nf)) (q116m0 next r rules t19) = rule_Rules_l0 nf next r fu rules t19 := by
 intro fu
 induction fu with
 | zero => intros; rfl
 | succ fu ih =>
  intro rules t19
  rw [q116h0 nf next r fu rules t19]
  simp only [ih, q116e2]
  rfl
theorem rule_Rules_eq (nf : Nat) (next : List (List Int)) : runF tab (rule_Rules_phi nf) rule_Rules_keep nf q116P q116R (resL ([]) Try.f43) (codeOf Try.f43) ⟨next, ()⟩ = rule_Rules_f nf next := by
 refine Eq.trans (b := rule_Rules_p nf (fun p0 p1 v0 v1 => iter nf (q116I nf 0 (q116L0 nf)) (q116m0 p0 p1 v0 v1)) next) (by kernel_rfl) ?_
 simp only [q116e0]
 rfl
def rule_Rules_F (nf : Nat) (x : denPs q116P) : Option (denL q116R) := rule_Rules_f nf x.1
def rule_Rules_C (nf : Nat) : Contract := ⟨q116P, q116R, rule_Rules_F nf, []⟩
theorem rule_Rules_ok : FnOK Try.prog 43 := ⟨Try.f43, codeOf Try.f43, Try.func43, by kernel_rfl, by kernel_rfl⟩
theorem rule_Rules_holds (nf : Nat) : Contract.Holds Try.prog 43 (rule_Rules_C nf) :=
 fn_holds (Φ := rule_Rules_phi nf) (keep := rule_Rules_keep) (n := nf) ⟨tabs.1, tabs.2, (ctx_cons way_From_ok (way_From_holds nf) ctx_nil), mixed, bk_ok bkls rfl⟩ (fn := Try.f43) ⟨Try.func43, by kernel_rfl, by kernel_rfl, by kernel_rfl⟩ (fun x => rule_Rules_eq nf x.1)

/-! codemason single.Once 1 -/
abbrev q117P : List PT := [.val (.int .i64) (.bor true false), .val (.int .i64) (.bor true false), .val (.int .i64) (.bor true false), .ptr (.mp (.int .i64) (.pair (.int .i64) (.pair (.int .i64) (.unit)))) (.bor true false), .ptr (.sl (.int .u32)) (.bor true false)]
abbrev q117R : List (Ty × Md) := [(.bool, .bor false true)]
def single_Once_1_phi (_ : Nat) : Nat → Option Contract := lookC []
def single_Once_1_keep : Nat → List Nat := lookK []
def single_Once_1_p (_ : Nat) (n' i k' : Int) (c3 : List TZ31) (c4 : List Int) : Option (Bool × Unit) :=
 bif !(getM iT1 tI2fn1 c3 n').isSome then
  some ((false, ()))
 else
  bif decide (((getM iT1 tI2fn1 c3 n').getD (0, 0, ())).1 < 0) then
   some ((true, ()))
  else
   bif ((getM iT1 tI2fn1 c3 n').getD (0, 0, ())).1 == i then
    some ((decide (((getM iT1 tI2fn1 c3 n').getD (0, 0, ())).2.1 < k'), ()))
   else
    bif decide (i ≥ 0) then
     bif inb i c4.length then
      bif decide (0 ≤ ((getM iT1 tI2fn1 c3 n').getD (0, 0, ())).1) then
       some ((IntKind.u32.wrap ((BitVec.ofInt IntKind.u32.bits (shrI IntKind.u32 (c4.getD i.toNat 0) ((getM iT1 tI2fn1 c3 n').getD (0, 0, ())).1) &&& BitVec.ofInt IntKind.u32.bits 1).toNat : Int) == 1, ()))
      else
       none
     else
      none
    else
     some ((false, ()))
def single_Once_1_f (nf : Nat) (n' i k' : Int) (c3 : List TZ31) (c4 : List Int) : Option (Bool × Unit) := single_Once_1_p nf n' i k' c3 c4
theorem single_Once_1_eq (nf : Nat) (n' i k' : Int) (c3 : List TZ31) (c4 : List Int) : runF tab (single_Once_1_phi nf) single_Once_1_keep nf q117P q117R (resL ([]) Try.f45) (codeOf Try.f45) ⟨n', i, k', c3, c4, ()⟩ = single_Once_1_f nf n' i k' c3 c4 := by kernel_rfl
def single_Once_1_F (nf : Nat) (x : denPs q117P) : Option (denL q117R) := single_Once_1_f nf x.1 x.2.1 x.2.2.1 x.2.2.2.1 x.2.2.2.2.1
def single_Once_1_C (nf : Nat) : Contract := ⟨q117P, q117R, single_Once_1_F nf, []⟩
theorem single_Once_1_ok : FnOK Try.prog 45 := ⟨Try.f45, codeOf Try.f45, Try.func45, by kernel_rfl, by kernel_rfl⟩
theorem single_Once_1_holds (nf : Nat) : Contract.Holds Try.prog 45 (single_Once_1_C nf) :=
 fn_holds (Φ := single_Once_1_phi nf) (keep := single_Once_1_keep) (n := nf) ⟨tabs.1, tabs.2, ctx_nil, mixed, bk_ok bkls rfl⟩ (fn := Try.f45) ⟨Try.func45, by kernel_rfl, by kernel_rfl, by kernel_rfl⟩ (fun x => single_Once_1_eq nf x.1 x.2.1 x.2.2.1 x.2.2.2.1 x.2.2.2.2.1)

/-! slices.Clone int int -/
abbrev q118P : List PT := [.val (.sl (.int .i64)) (.bor true false)]
abbrev q118R : List (Ty × Md) := [(.sl (.int .i64), .own false (.bor false false))]
def slices_Clone_phi (_ : Nat) : Nat → Option Contract := lookC []
def slices_Clone_keep : Nat → List Nat := lookK []
def slices_Clone_p (_ : Nat) (s : List Int) : Option (List Int × Unit) :=
 bif s.isEmpty then
  both (some (([], ()))) (bif bimp false !s.isEmpty && ((List.length ([] : List Unit)) + s.length).ble lim then
   some (([] ++ s, ()))
  else
   none)
 else
  bif bimp false !s.isEmpty && ((List.length ([] : List Unit)) + s.length).ble lim then
   some (([] ++ s, ()))
  else
   none
def slices_Clone_f (nf : Nat) (s : List Int) : Option (List Int × Unit) := slices_Clone_p nf s
theorem slices_Clone_eq (nf : Nat) (s : List Int) : runF tab (slices_Clone_phi nf) slices_Clone_keep nf q118P q118R (resL ([]) Try.f47) (codeOf Try.f47) ⟨s, ()⟩ = slices_Clone_f nf s := by kernel_rfl
def slices_Clone_F (nf : Nat) (x : denPs q118P) : Option (denL q118R) := slices_Clone_f nf x.1
def slices_Clone_C (nf : Nat) : Contract := ⟨q118P, q118R, slices_Clone_F nf, []⟩
theorem slices_Clone_ok : FnOK Try.prog 47 := ⟨Try.f47, codeOf Try.f47, Try.func47, by kernel_rfl, by kernel_rfl⟩
theorem slices_Clone_holds (nf : Nat) : Contract.Holds Try.prog 47 (slices_Clone_C nf) :=
 fn_holds (Φ := slices_Clone_phi nf) (keep := slices_Clone_keep) (n := nf) ⟨tabs.1, tabs.2, ctx_nil, mixed, bk_ok bkls rfl⟩ (fn := Try.f47) ⟨Try.func47, by kernel_rfl, by kernel_rfl, by kernel_rfl⟩ (fun x => slices_Clone_eq nf x.1)

/-! codemason single.Once -/
abbrev q119P : List PT := [.val (.int .i64) (.bor true false), .val (.sl (.pair (.sl (.pair (.int .i64) (.pair (.sl (.int .i64)) (.unit)))) (.pair (.sl tI5fn1) (.pair (.int .i64) (.pair (.int .i64) (.pair (.int .i64) (.pair (.sl (.int .i64)) (.unit)))))))) (.bor true false)]
abbrev q119R : List (Ty × Md) := [(.bool, .bor false true), (.int .i64, .bor false true)]
def single_Once_phi (nf : Nat) : Nat → Option Contract := lookC [(39, single_Check_C nf), (40, single_sets_C nf), (41, block_Next_C nf), (42, single_bare_C nf), (43, rule_Rules_C nf), (44, single_From_C nf), (45, single_Once_1_C nf), (46, single_uses_C nf), (47, slices_Clone_C nf)]
def single_Once_keep : Nat → List Nat := lookK [(10, [1, 7, 8, 10, 11, 12, 13, 44, 45, 46, 47, 48, 131, 132, 133]), (8, [1, 7, 8, 10, 11, 12, 13, 14, 20, 44, 45, 46, 47, 48, 100, 101, 102, 103, 109, 110, 111]), (6, [1, 7, 8, 10, 11, 12, 13, 14, 44, 45, 46, 47, 48, 100, 101, 102, 103]), (4, [1, 7, 8, 10, 11, 12, 13, 14, 16, 44, 45, 46, 47, 48, 58, 59, 60, 61, 65, 66, 67, 68]), (2, [1, 7, 8, 10, 11, 12, 13, 14, 44, 45, 46, 47, 48, 58, 59, 60, 61]), (0, [1, 7, 8, 10, 11, 12, 44, 45, 46, 47, 48])]
def single_Once_b0 (_ : Nat) (l2 : List TZ01 → Int → List TZ31 → Bool → List Int → List (List Int) → List TZ21 × TStfn1 × Int × Int × Int × List Int × Unit → Int → Option (Bool × Int × Unit)) (l' : List TZ01) (g0 : List TZ31 → Bool → List Int → List (List Int) → Int → Option (Bool × Int × Unit)) (at' : List TZ31) (ok : Bool) (rules : List Int) (from' : List (List Int)) (t48 : Int) : Option (Bool × Int × Unit) :=
 bif decide (t48 < (l'.length : Int)) then
  bif inb t48 l'.length then
   bif inb t48 rules.length then
    bif rules.getD t48.toNat 0 == 0 then
     g0 at' ok rules from' (IntKind.i64.wrap (t48 + 1))
    else
     l2 l' t48 at' ok rules from' (l'.getD t48.toNat ([], [], 0, 0, 0, [], ())) 0
   else
    none
  else
   none
 else
  some ((ok, 0, ()))
def single_Once_b2 (_ : Nat) (l4 : List TZ01 → Int → Int → List TZ31 → Bool → List Int → List (List Int) → List TZ21 × TStfn1 × Int × Int × Int × List Int × Unit → Int × List Int × Unit → Int → Option (Bool × Int × Unit)) (l6 : List TZ01 → Int → List TZ21 × TStfn1 × Int × Int × Int × List Int × Unit → List TZ31 → Bool → List Int → List (List Int) → List TZ21 × TStfn1 × Int × Int × Int × List Int × Unit → Int → Option (Bool × Int × Unit)) (l' : List TZ01) (t48 : Int) (_ : List TZ31 → Bool → List Int → List (List Int) → Int → Option (Bool × Int × Unit)) (_ : List TZ31 → Bool → List Int → List (List Int) → List TZ21 × TStfn1 × Int × Int × Int × List Int × Unit → Int → Option (Bool × Int × Unit)) (at'2 : List TZ31) (ok2 : Bool) (rules2 : List Int) (from'2 : List (List Int)) (b : List TZ21 × TStfn1 × Int × Int × Int × List Int × Unit) (t61 : Int) : Option (Bool × Int × Unit) :=
 bif decide (t61 < ((List.length (l'.getD t48.toNat ([], [], 0, 0, 0, [], ())).1) : Int)) then
  bif inb t61 (List.length (l'.getD t48.toNat ([], [], 0, 0, 0, [], ())).1) then
   l4 l' t48 t61 at'2 ok2 rules2 from'2 b (List.getD (l'.getD t48.toNat ([], [], 0, 0, 0, [], ())).1 t61.toNat (0, [], ())) 0
  else
   none
 else
  l6 l' t48 b at'2 ok2 rules2 from'2 b 0
def single_Once_b4 (nf : Nat) (l' : List TZ01) (t48 t61 : Int) (g2 : List TZ31 → Bool → List Int → List (List Int) → List TZ21 × TStfn1 × Int × Int × Int × List Int × Unit → Int → Option (Bool × Int × Unit)) (_ : List TZ31 → Bool → List Int → List (List Int) → Int → Option (Bool × Int × Unit)) (g4 : List TZ31 → Bool → List Int → List (List Int) → List TZ21 × TStfn1 × Int × Int × Int × List Int × Unit → Int × List Int × Unit → Int → Option (Bool × Int × Unit)) (at'3 : List TZ31) (ok3 : Bool) (rules3 : List Int) (from'3 : List (List Int)) (b2 : List TZ21 × TStfn1 × Int × Int × Int × List Int × Unit) (j : Int × List Int × Unit) (t68 : Int) : Option (Bool × Int × Unit) :=
 bif decide (t68 < ((List.length (List.getD (l'.getD t48.toNat ([], [], 0, 0, 0, [], ())).1 t61.toNat (0, [], ())).2.1) : Int)) then
  bif inb t68 (List.length (List.getD (l'.getD t48.toNat ([], [], 0, 0, 0, [], ())).1 t61.toNat (0, [], ())).2.1) then
   bif inb t48 from'3.length then
    bif inb t68 (List.length (from'3.getD t48.toNat [])) then
     bif ok3 then
      bif decide (List.getD (from'3.getD t48.toNat []) t68.toNat 0 ≥ 0) then
       bif inb (List.getD (from'3.getD t48.toNat []) t68.toNat 0) rules3.length then
        bif rules3.getD (Int.toNat (List.getD (from'3.getD t48.toNat []) t68.toNat 0)) 0 == 0 then
         g4 at'3 true rules3 from'3 b2 j (IntKind.i64.wrap (t68 + 1))
        else
         Option.bind (single_Once_1_f nf (List.getD (List.getD (l'.getD t48.toNat ([], [], 0, 0, 0, [], ())).1 t61.toNat (0, [], ())).2.1 t68.toNat 0) (List.getD (from'3.getD t48.toNat []) t68.toNat 0) 20 at'3 rules3) fun r7 =>
         g4 at'3 r7.1 rules3 from'3 b2 j (IntKind.i64.wrap (t68 + 1))
       else
        none
      else
       Option.bind (single_Once_1_f nf (List.getD (List.getD (l'.getD t48.toNat ([], [], 0, 0, 0, [], ())).1 t61.toNat (0, [], ())).2.1 t68.toNat 0) (List.getD (from'3.getD t48.toNat []) t68.toNat 0) 20 at'3 rules3) fun r8 =>
       g4 at'3 r8.1 rules3 from'3 b2 j (IntKind.i64.wrap (t68 + 1))
     else
      g4 at'3 false rules3 from'3 b2 j (IntKind.i64.wrap (t68 + 1))
    else
     none
   else
    none
  else
   none
 else
  g2 at'3 ok3 rules3 from'3 b2 (IntKind.i64.wrap (t61 + 1))
def single_Once_b6 (nf : Nat) (l8 : List TZ01 → Int → Int → List TZ21 × TStfn1 × Int × Int × Int × List Int × Unit → List Int × Unit → List TZ31 → Bool → List Int → List (List Int) → List TZ21 × TStfn1 × Int × Int × Int × List Int × Unit → List Int → Int → Option (Bool × Int × Unit)) (l10 : List TZ01 → Int → List TZ31 → Bool → List Int → List (List Int) → List Int → Int → Int → Option (Bool × Int × Unit)) (l' : List TZ01) (t48 : Int) (b : List TZ21 × TStfn1 × Int × Int × Int × List Int × Unit) (_ : List TZ31 → Bool → List Int → List (List Int) → Int → Option (Bool × Int × Unit)) (_ : List TZ31 → Bool → List Int → List (List Int) → List TZ21 × TStfn1 × Int × Int × Int × List Int × Unit → Int → Option (Bool × Int × Unit)) (at'4 : List TZ31) (ok4 : Bool) (rules4 : List Int) (from'4 : List (List Int)) (b3 : List TZ21 × TStfn1 × Int × Int × Int × List Int × Unit) (t103 : Int) : Option (Bool × Int × Unit) :=
 bif decide (t103 < ((List.length b.2.1) : Int)) then
  bif inb t103 (List.length b.2.1) then
   Option.bind (single_uses_f nf (List.getD b.2.1 t103.toNat (0, 0, 0, 0, 0, ()))) fun r9 =>
   l8 l' t48 t103 b r9 at'4 ok4 rules4 from'4 b3 r9.1 0
  else
   none
 else
  both (Option.bind (slices_Clone_f nf b3.2.2.2.2.2.1) fun r11 =>
  bif bimp false ![b3.2.2.1].isEmpty && (List.length r11.1 + [b3.2.2.1].length).ble lim then
   l10 l' t48 at'4 ok4 rules4 from'4 (r11.1 ++ [b3.2.2.1]) (((r11.1 ++ [b3.2.2.1]).length : Int)) 0
  else
   none) (Option.bind (slices_Clone_f nf b3.2.2.2.2.2.1) fun r13 =>
  bif bimp false ![b3.2.2.1].isEmpty && (List.length r13.1 + [b3.2.2.1].length).ble lim then
   l10 l' t48 at'4 ok4 rules4 from'4 (r13.1 ++ [b3.2.2.1]) (((r13.1 ++ [b3.2.2.1]).length : Int)) 0
  else
   none)
def single_Once_b8 (nf : Nat) (_ : List TZ01) (t48 t103 : Int) (_ : List TZ21 × TStfn1 × Int × Int × Int × List Int × Unit) (r9 : List Int × Unit) (g6 : List TZ31 → Bool → List Int → List (List Int) → List TZ21 × TStfn1 × Int × Int × Int × List Int × Unit → Int → Option (Bool × Int × Unit)) (_ : List TZ31 → Bool → List Int → List (List Int) → Int → Option (Bool × Int × Unit)) (g8 : List TZ31 → Bool → List Int → List (List Int) → List TZ21 × TStfn1 × Int × Int × Int × List Int × Unit → List Int → Int → Option (Bool × Int × Unit)) (at'5 : List TZ31) (ok5 : Bool) (rules5 : List Int) (from'5 : List (List Int)) (b4 : List TZ21 × TStfn1 × Int × Int × Int × List Int × Unit) (t109 : List Int) (t111 : Int) : Option (Bool × Int × Unit) :=
 bif decide (t111 < ((List.length r9.1) : Int)) then
  bif inb t111 t109.length then
   bif ok5 then
    Option.bind (single_Once_1_f nf (t109.getD t111.toNat 0) t48 t103 at'5 rules5) fun r10 =>
    g8 at'5 r10.1 rules5 from'5 b4 t109 (IntKind.i64.wrap (t111 + 1))
   else
    g8 at'5 false rules5 from'5 b4 t109 (IntKind.i64.wrap (t111 + 1))
  else
   none
 else
  g6 at'5 ok5 rules5 from'5 b4 (IntKind.i64.wrap (t103 + 1))
def single_Once_b10 (nf : Nat) (_ : List TZ01) (t48 : Int) (g0 : List TZ31 → Bool → List Int → List (List Int) → Int → Option (Bool × Int × Unit)) (g10 : List TZ31 → Bool → List Int → List (List Int) → List Int → Int → Int → Option (Bool × Int × Unit)) (at'6 : List TZ31) (ok6 : Bool) (rules6 : List Int) (from'6 : List (List Int)) (t131 : List Int) (t132 t133 : Int) : Option (Bool × Int × Unit) :=
 bif decide (t133 < t132) then
  bif inb t133 t131.length then
   bif ok6 then
    bif decide (t131.getD t133.toNat 0 < 0) then
     g10 at'6 true rules6 from'6 t131 t132 (IntKind.i64.wrap (t133 + 1))
    else
     Option.bind (single_Once_1_f nf (t131.getD t133.toNat 0) t48 20 at'6 rules6) fun r12 =>
     g10 at'6 r12.1 rules6 from'6 t131 t132 (IntKind.i64.wrap (t133 + 1))
   else
    g10 at'6 false rules6 from'6 t131 t132 (IntKind.i64.wrap (t133 + 1))
  else
   none
 else
  g0 at'6 ok6 rules6 from'6 (IntKind.i64.wrap (t48 + 1))
def single_Once_p (nf : Nat) (l0 : List TZ01 → List TZ31 → Bool → List Int → List (List Int) → Int → Option (Bool × Int × Unit)) (vars : Int) (l' : List TZ01) : Option (Bool × Int × Unit) :=
 Option.bind (single_Check_f nf vars l') fun r =>
 bif r.1 != 0 then
  some ((false, r.1, ()))
 else
  Option.bind (single_sets_f nf vars l') fun r2 =>
  Option.bind (single_bare_f nf l') fun r3 =>
  Option.bind (block_Next_f nf r3.1) fun r4 =>
  Option.bind (rule_Rules_f nf r4.1) fun r5 =>
  Option.bind (single_From_f nf r4.1) fun r6 =>
  l0 l' r2.1 r2.2.1 r5.1 r6.1 0
def single_Once_l10 (nf : Nat) (l' : List TZ01) (t48 : Int) (g0 : List TZ31 → Bool → List Int → List (List Int) → Int → Option (Bool × Int × Unit)) : Nat → List TZ31 → Bool → List Int → List (List Int) → List Int → Int → Int → Option (Bool × Int × Unit)
 | 0, _, _, _, _, _, _, _ => none
 | fu + 1, at'6, ok6, rules6, from'6, t131, t132, t133 => single_Once_b10 nf l' t48 g0 (single_Once_l10 nf l' t48 g0 fu) at'6 ok6 rules6 from'6 t131 t132 t133
def single_Once_l8 (nf : Nat) (l' : List TZ01) (t48 t103 : Int) (b : List TZ21 × TStfn1 × Int × Int × Int × List Int × Unit) (r9 : List Int × Unit) (g6 : List TZ31 → Bool → List Int → List (List Int) → List TZ21 × TStfn1 × Int × Int × Int × List Int × Unit → Int → Option (Bool × Int × Unit)) (g0 : List TZ31 → Bool → List Int → List (List Int) → Int → Option (Bool × Int × Unit)) : Nat → List TZ31 → Bool → List Int → List (List Int) → List TZ21 × TStfn1 × Int × Int × Int × List Int × Unit → List Int → Int → Option (Bool × Int × Unit)
 | 0, _, _, _, _, _, _, _ => none
 | fu + 1, at'5, ok5, rules5, from'5, b4, t109, t111 => single_Once_b8 nf l' t48 t103 b r9 g6 g0 (single_Once_l8 nf l' t48 t103 b r9 g6 g0 fu) at'5 ok5 rules5 from'5 b4 t109 t111
def single_Once_l6 (nf : Nat) (l' : List TZ01) (t48 : Int) (b : List TZ21 × TStfn1 × Int × Int × Int × List Int × Unit) (g0 : List TZ31 → Bool → List Int → List (List Int) → Int → Option (Bool × Int × Unit)) : Nat → List TZ31 → Bool → List Int → List (List Int) → List TZ21 × TStfn1 × Int × Int × Int × List Int × Unit → Int → Option (Bool × Int × Unit)
 | 0, _, _, _, _, _, _ => none
 | fu + 1, at'4, ok4, rules4, from'4, b3, t103 => single_Once_b6 nf (fun _ _ p2 _ p4 v0 v1 v2 v3 v4 v5 v6 => single_Once_l8 nf l' t48 p2 b p4 (fun at'4 ok4 rules4 from'4 b3 t103 => single_Once_l6 nf l' t48 b g0 fu at'4 ok4 rules4 from'4 b3 t103) g0 nf v0 v1 v2 v3 v4 v5 v6) (fun _ _ v0 v1 v2 v3 v4 v5 v6 => single_Once_l10 nf l' t48 g0 nf v0 v1 v2 v3 v4 v5 v6) l' t48 b g0 (single_Once_l6 nf l' t48 b g0 fu) at'4 ok4 rules4 from'4 b3 t103
def single_Once_l4 (nf : Nat) (l' : List TZ01) (t48 t61 : Int) (g2 : List TZ31 → Bool → List Int → List (List Int) → List TZ21 × TStfn1 × Int × Int × Int × List Int × Unit → Int → Option (Bool × Int × Unit)) (g0 : List TZ31 → Bool → List Int → List (List Int) → Int → Option (Bool × Int × Unit)) : Nat → List TZ31 → Bool → List Int → List (List Int) → List TZ21 × TStfn1 × Int × Int × Int × List Int × Unit → Int × List Int × Unit → Int → Option (Bool × Int × Unit)
 | 0, _, _, _, _, _, _, _ => none
 | fu + 1, at'3, ok3, rules3, from'3, b2, j, t68 => single_Once_b4 nf l' t48 t61 g2 g0 (single_Once_l4 nf l' t48 t61 g2 g0 fu) at'3 ok3 rules3 from'3 b2 j t68
def single_Once_l2 (nf : Nat) (l' : List TZ01) (t48 : Int) (g0 : List TZ31 → Bool → List Int → List (List Int) → Int → Option (Bool × Int × Unit)) : Nat → List TZ31 → Bool → List Int → List (List Int) → List TZ21 × TStfn1 × Int × Int × Int × List Int × Unit → Int → Option (Bool × Int × Unit)
 | 0, _, _, _, _, _, _ => none
 | fu + 1, at'2, ok2, rules2, from'2, b, t61 => single_Once_b2 nf (fun _ _ p2 v0 v1 v2 v3 v4 v5 v6 => single_Once_l4 nf l' t48 p2 (fun at'2 ok2 rules2 from'2 b t61 => single_Once_l2 nf l' t48 g0 fu at'2 ok2 rules2 from'2 b t61) g0 nf v0 v1 v2 v3 v4 v5 v6) (fun _ _ p2 v0 v1 v2 v3 v4 v5 => single_Once_l6 nf l' t48 p2 g0 nf v0 v1 v2 v3 v4 v5) l' t48 g0 (single_Once_l2 nf l' t48 g0 fu) at'2 ok2 rules2 from'2 b t61
def single_Once_l0 (nf : Nat) (l' : List TZ01) : Nat → List TZ31 → Bool → List Int → List (List Int) → Int → Option (Bool × Int × Unit)
 | 0, _, _, _, _, _ => none
 | fu + 1, at', ok, rules, from', t48 => single_Once_b0 nf (fun _ p1 v0 v1 v2 v3 v4 v5 => single_Once_l2 nf l' p1 (fun at' ok rules from' t48 => single_Once_l0 nf l' fu at' ok rules from' t48) nf v0 v1 v2 v3 v4 v5) l' (single_Once_l0 nf l' fu) at' ok rules from' t48
def single_Once_f (nf : Nat) (vars : Int) (l' : List TZ01) : Option (Bool × Int × Unit) := single_Once_p nf (fun p0 v0 v1 v2 v3 v4 => single_Once_l0 nf p0 nf v0 v1 v2 v3 v4) vars l'
def q119I (nf b : Nat) (L : LC (Bool × Int × Unit)) := LC.F tab (single_Once_phi nf) (fun _ F => iter nf F) single_Once_keep b L
def q119L0 (nf : Nat) : LC (Bool × Int × Unit) := theL (findL tab (single_Once_phi nf) (fun _ F => iter nf F) single_Once_keep 0 0 (codeOf Try.f17) (fin tab q119R (resL ([]) Try.f17)) (fun _ _ => none) (fin tab q119R (resL ([]) Try.f17)))
def q119m0 (l' : List TZ01) (at' : List TZ31) (ok : Bool) (rules : List Int) (from' : List (List Int)) (t48 : Int) : St := ⟨fresh, [(1, AV.v tZ11.sl mR1 l'), (7, AV.box 7 500007 (iT1.mp tI2fn1) mL1 at'), (8, AV.v Ty.bool mF1 ok), (10, AV.box 10 500010 uT1.sl (Md.own false mL1) rules), (11, AV.ow 500011 iT1.sl.sl (Md.own false mL1) from'), (12, AV.clo 45 [AV.pl 7 7 [Stp.dr], AV.pl 10 10 [Stp.dr]]), (44, AV.dead), (45, AV.clo 45 [AV.pl 7 7 [Stp.dr], AV.pl 10 10 [Stp.dr]]), (46, AV.v tZ11.sl mR1 l'), (47, vI1 (l'.length : Int)), (48, vI1 t48)]⟩
def q119L2 (nf : Nat) (G0 : St → Option (Bool × Int × Unit)) : LC (Bool × Int × Unit) := theL (findL tab (single_Once_phi nf) (fun _ F => iter nf F) single_Once_keep 2 0 (q119L0 nf).c (fun st => norm (single_Once_keep 0) st G0) (q119L0 nf).Kx (q119L0 nf).Kr)
def q119m2 (l' : List TZ01) (t48 : Int) (at'2 : List TZ31) (ok2 : Bool) (rules2 : List Int) (from'2 : List (List Int)) (b : List TZ21 × TStfn1 × Int × Int × Int × List Int × Unit) (t61 : Int) : St := ⟨fresh, [(1, AV.v tZ11.sl mR1 l'), (7, AV.box 7 500007 (iT1.mp tI2fn1) mL1 at'2), (8, AV.v Ty.bool mF1 ok2), (10, AV.box 10 500010 uT1.sl (Md.own false mL1) rules2), (11, AV.ow 500011 iT1.sl.sl (Md.own false mL1) from'2), (12, AV.clo 45 [AV.pl 7 7 [Stp.dr], AV.pl 10 10 [Stp.dr]]), (13, vI1 t48), (14, AV.box 14 500014 tZ11 mR1 b), (44, AV.dead), (45, AV.clo 45 [AV.pl 7 7 [Stp.dr], AV.pl 10 10 [Stp.dr]]), (46, AV.v tZ11.sl mR1 l'), (47, vI1 (l'.length : Int)), (48, vI1 t48), (58, AV.pl 14 14 [Stp.dr, Stp.fld 0]), (59, AV.v (iT1.pair (iT1.sl.pair Ty.unit)).sl mR1 (l'.getD t48.toNat ([], [], 0, 0, 0, [], ())).1), (60, vI1 ((List.length (l'.getD t48.toNat ([], [], 0, 0, 0, [], ())).1) : Int)), (61, vI1 t61)]⟩
def q119L4 (nf : Nat) (G0 G2 : St → Option (Bool × Int × Unit)) : LC (Bool × Int × Unit) := theL (findL tab (single_Once_phi nf) (fun _ F => iter nf F) single_Once_keep 4 2 (q119L2 nf G0).c (fun st => norm (single_Once_keep 2) st G2) (q119L2 nf G0).Kx (q119L2 nf G0).Kr)
def q119m4 (l' : List TZ01) (t48 t61 : Int) (at'3 : List TZ31) (ok3 : Bool) (rules3 : List Int) (from'3 : List (List Int)) (b2 : List TZ21 × TStfn1 × Int × Int × Int × List Int × Unit) (j : Int × List Int × Unit) (t68 : Int) : St := ⟨fresh, [(1, AV.v tZ11.sl mR1 l'), (7, AV.box 7 500007 (iT1.mp tI2fn1) mL1 at'3), (8, AV.v Ty.bool mF1 ok3), (10, AV.box 10 500010 uT1.sl (Md.own false mL1) rules3), (11, AV.ow 500011 iT1.sl.sl (Md.own false mL1) from'3), (12, AV.clo 45 [AV.pl 7 7 [Stp.dr], AV.pl 10 10 [Stp.dr]]), (13, vI1 t48), (14, AV.box 14 500014 tZ11 mR1 b2), (16, AV.box 16 500016 (iT1.pair (iT1.sl.pair Ty.unit)) mR1 j), (44, AV.dead), (45, AV.clo 45 [AV.pl 7 7 [Stp.dr], AV.pl 10 10 [Stp.dr]]), (46, AV.v tZ11.sl mR1 l'), (47, vI1 (l'.length : Int)), (48, vI1 t48), (58, AV.pl 14 14 [Stp.dr, Stp.fld 0]), (59, AV.v (iT1.pair (iT1.sl.pair Ty.unit)).sl mR1 (l'.getD t48.toNat ([], [], 0, 0, 0, [], ())).1), (60, vI1 ((List.length (l'.getD t48.toNat ([], [], 0, 0, 0, [], ())).1) : Int)), (61, vI1 t61), (65, AV.pl 16 16 [Stp.dr, Stp.fld 1]), (66, AV.v iT1.sl mR1 (List.getD (l'.getD t48.toNat ([], [], 0, 0, 0, [], ())).1 t61.toNat (0, [], ())).2.1), (67, vI1 ((List.length (List.getD (l'.getD t48.toNat ([], [], 0, 0, 0, [], ())).1 t61.toNat (0, [], ())).2.1) : Int)), (68, vI1 t68)]⟩
def q119L6 (nf : Nat) (G0 : St → Option (Bool × Int × Unit)) : LC (Bool × Int × Unit) := theL (findL tab (single_Once_phi nf) (fun _ F => iter nf F) single_Once_keep 6 0 (q119L0 nf).c (fun st => norm (single_Once_keep 0) st G0) (q119L0 nf).Kx (q119L0 nf).Kr)
def q119m6 (l' : List TZ01) (t48 : Int) (b : List TZ21 × TStfn1 × Int × Int × Int × List Int × Unit) (at'4 : List TZ31) (ok4 : Bool) (rules4 : List Int) (from'4 : List (List Int)) (b3 : List TZ21 × TStfn1 × Int × Int × Int × List Int × Unit) (t103 : Int) : St := ⟨fresh, [(1, AV.v tZ11.sl mR1 l'), (7, AV.box 7 500007 (iT1.mp tI2fn1) mL1 at'4), (8, AV.v Ty.bool mF1 ok4), (10, AV.box 10 500010 uT1.sl (Md.own false mL1) rules4), (11, AV.ow 500011 iT1.sl.sl (Md.own false mL1) from'4), (12, AV.clo 45 [AV.pl 7 7 [Stp.dr], AV.pl 10 10 [Stp.dr]]), (13, vI1 t48), (14, AV.box 14 500014 tZ11 mR1 b3), (44, AV.dead), (45, AV.clo 45 [AV.pl 7 7 [Stp.dr], AV.pl 10 10 [Stp.dr]]), (46, AV.v tZ11.sl mR1 l'), (47, vI1 (l'.length : Int)), (48, vI1 t48), (100, AV.pl 14 14 [Stp.dr, Stp.fld 1]), (101, AV.v tI5fn1.sl mR1 b.2.1), (102, vI1 ((List.length b.2.1) : Int)), (103, vI1 t103)]⟩
def q119L8 (nf : Nat) (G0 G6 : St → Option (Bool × Int × Unit)) : LC (Bool × Int × Unit) := theL (findL tab (single_Once_phi nf) (fun _ F => iter nf F) single_Once_keep 8 6 (q119L6 nf G0).c (fun st => norm (single_Once_keep 6) st G6) (q119L6 nf G0).Kx (q119L6 nf G0).Kr)
def q119m8 (l' : List TZ01) (t48 t103 : Int) (b : List TZ21 × TStfn1 × Int × Int × Int × List Int × Unit) (r9 : List Int × Unit) (at'5 : List TZ31) (ok5 : Bool) (rules5 : List Int) (from'5 : List (List Int)) (b4 : List TZ21 × TStfn1 × Int × Int × Int × List Int × Unit) (t109 : List Int) (t111 : Int) : St := ⟨fresh, [(1, AV.v tZ11.sl mR1 l'), (7, AV.box 7 500007 (iT1.mp tI2fn1) mL1 at'5), (8, AV.v Ty.bool mF1 ok5), (10, AV.box 10 500010 uT1.sl (Md.own false mL1) rules5), (11, AV.ow 500011 iT1.sl.sl (Md.own false mL1) from'5), (12, AV.clo 45 [AV.pl 7 7 [Stp.dr], AV.pl 10 10 [Stp.dr]]), (13, vI1 t48), (14, AV.box 14 500014 tZ11 mR1 b4), (20, vI1 t103), (44, AV.dead), (45, AV.clo 45 [AV.pl 7 7 [Stp.dr], AV.pl 10 10 [Stp.dr]]), (46, AV.v tZ11.sl mR1 l'), (47, vI1 (l'.length : Int)), (48, vI1 t48), (100, AV.pl 14 14 [Stp.dr, Stp.fld 1]), (101, AV.v tI5fn1.sl mR1 b.2.1), (102, vI1 ((List.length b.2.1) : Int)), (103, vI1 t103), (109, AV.ow 500109 iT1.sl (Md.own false mL1) t109), (110, vI1 ((List.length r9.1) : Int)), (111, vI1 t111)]⟩
def q119L10 (nf : Nat) (G0 : St → Option (Bool × Int × Unit)) : LC (Bool × Int × Unit) := theL (findL tab (single_Once_phi nf) (fun _ F => iter nf F) single_Once_keep 10 0 (q119L0 nf).c (fun st => norm (single_Once_keep 0) st G0) (q119L0 nf).Kx (q119L0 nf).Kr)
def q119m10 (l' : List TZ01) (t48 : Int) (at'6 : List TZ31) (ok6 : Bool) (rules6 : List Int) (from'6 : List (List Int)) (t131 : List Int) (t132 t133 : Int) : St := ⟨fresh, [(1, AV.v tZ11.sl mR1 l'), (7, AV.box 7 500007 (iT1.mp tI2fn1) mL1 at'6), (8, AV.v Ty.bool mF1 ok6), (10, AV.box 10 500010 uT1.sl (Md.own false mL1) rules6), (11, AV.ow 500011 iT1.sl.sl (Md.own false mL1) from'6), (12, AV.clo 45 [AV.pl 7 7 [Stp.dr], AV.pl 10 10 [Stp.dr]]), (13, vI1 t48), (44, AV.dead), (45, AV.clo 45 [AV.pl 7 7 [Stp.dr], AV.pl 10 10 [Stp.dr]]), (46, AV.v tZ11.sl mR1 l'), (47, vI1 (l'.length : Int)), (48, vI1 t48), (131, AV.ow 500131 iT1.sl (Md.own false mL1) t131), (132, vI1 t132), (133, vI1 t133)]⟩
theorem q119h10 (nf : Nat) (G0 : St → Option (Bool × Int × Unit)) (l' : List TZ01) (t48 : Int) (fu : Nat) (at'6 : List TZ31) (ok6 : Bool) (rules6 : List Int) (from'6 : List (List Int)) (t131 : List Int) (t132 t133 : Int) : iter (fu + 1) (q119I nf 10 (q119L10 nf G0)) (q119m10 l' t48 at'6 ok6 rules6 from'6 t131 t132 t133) = single_Once_b10 nf l' t48 (fun at' ok rules from' t48 => G0 (q119m0 l' at' ok rules from' t48)) (fun at'6 ok6 rules6 from'6 t131 t132 t133 => iter fu (q119I nf 10 (q119L10 nf G0)) (q119m10 l' t48 at'6 ok6 rules6 from'6 t131 t132 t133)) at'6 ok6 rules6 from'6 t131 t132 t133 := by kernel_rfl
theorem q119e10 (nf : Nat) (G0 : St → Option (Bool × Int × Unit)) (l' : List TZ01) (t48 : Int) : ∀ (fu : Nat) (at'6 : List TZ31) (ok6 : Bool) (rules6 : List Int) (from'6 : List (List Int)) (t131 : List Int) (t132 t133 : Int), iter fu (q119I nf 10 (q119L10 nf G0)) (q119m10 l' t48 at'6 ok6 rules6 from'6 t131 t132 t133) = single_Once_l10 nf l' t48 (fun at' ok rules from' t48 => G0 (q119m0 l' at' ok rules from' t48)) fu at'6 ok6 rules6 from'6 t131 t132 t133 := by
 intro fu
 induction fu with
 | zero => intros; rfl
 | succ fu ih =>
  intro at'6 ok6 rules6 from'6 t131 t132 t133
  rw [q119h10 nf G0 l' t48 fu at'6 ok6 rules6 from'6 t131 t132 t133]
  simp only [ih]
  rfl
theorem q119h8 (nf : Nat) (G0 G6 : St → Option (Bool × Int × Unit)) (l' : List TZ01) (t48 t103 : Int) (b : List TZ21 × TStfn1 × Int × Int × Int × List Int × Unit) (r9 : List Int × Unit) (fu : Nat) (at'5 : List TZ31) (ok5 : Bool) (rules5 : List Int) (from'5 : List (List Int)) (b4 : List TZ21 × TStfn1 × Int × Int × Int × List Int × Unit) (t109 : List Int) (t111 : Int) : iter (fu + 1) (q119I nf 8 (q119L8 nf G0 G6)) (q119m8 l' t48 t103 b r9 at'5 ok5 rules5 from'5 b4 t109 t111) = single_Once_b8 nf l' t48 t103 b r9 (fun at'4 ok4 rules4 from'4 b3 t103 => G6 (q119m6 l' t48 b at'4 ok4 rules4 from'4 b3 t103)) (fun at' ok rules from' t48 => G0 (q119m0 l' at' ok rules from' t48)) (fun at'5 ok5 rules5 from'5 b4 t109 t111 => iter fu (q119I nf 8 (q119L8 nf G0 G6)) (q119m8 l' t48 t103 b r9 at'5 ok5 rules5 from'5 b4 t109 t111)) at'5 ok5 rules5 from'5 b4 t109 t111 := by kernel_rfl
theorem q119e8 (nf : Nat) (G0 G6 : St → Option (Bool × Int × Unit)) (l' : List TZ01) (t48 t103 : Int) (b : List TZ21 × TStfn1 × Int × Int × Int × List Int × Unit) (r9 : List Int × Unit) : ∀ (fu : Nat) (at'5 : List TZ31) (ok5 : Bool) (rules5 : List Int) (from'5 : List (List Int)) (b4 : List TZ21 × TStfn1 × Int × Int × Int × List Int × Unit) (t109 : List Int) (t111 : Int), iter fu (q119I nf 8 (q119L8 nf G0 G6)) (q119m8 l' t48 t103 b r9 at'5 ok5 rules5 from'5 b4 t109 t111) = single_Once_l8 nf l' t48 t103 b r9 (fun at'4 ok4 rules4 from'4 b3 t103 => G6 (q119m6 l' t48 b at'4 ok4 rules4 from'4 b3 t103)) (fun at' ok rules from' t48 => G0 (q119m0 l' at' ok rules from' t48)) fu at'5 ok5 rules5 from'5 b4 t109 t111 := by
 intro fu
 induction fu with
 | zero => intros; rfl
 | succ fu ih =>
  intro at'5 ok5 rules5 from'5 b4 t109 t111
  rw [q119h8 nf G0 G6 l' t48 t103 b r9 fu at'5 ok5 rules5 from'5 b4 t109 t111]
  simp only [ih]
  rfl
theorem q119h6 (nf : Nat) (G0 : St → Option (Bool × Int × Unit)) (l' : List TZ01) (t48 : Int) (b : List TZ21 × TStfn1 × Int × Int × Int × List Int × Unit) (fu : Nat) (at'4 : List TZ31) (ok4 : Bool) (rules4 : List Int) (from'4 : List (List Int)) (b3 : List TZ21 × TStfn1 × Int × Int × Int × List Int × Unit) (t103 : Int) : iter (fu + 1) (q119I nf 6 (q119L6 nf G0)) (q119m6 l' t48 b at'4 ok4 rules4 from'4 b3 t103) = single_Once_b6 nf (fun _ _ p2 _ p4 v0 v1 v2 v3 v4 v5 v6 => iter nf (q119I nf 8 (q119L8 nf G0 (iter fu (q119I nf 6 (q119L6 nf G0))))) (q119m8 l' t48 p2 b p4 v0 v1 v2 v3 v4 v5 v6)) (fun _ _ v0 v1 v2 v3 v4 v5 v6 => iter nf (q119I nf 10 (q119L10 nf G0)) (q119m10 l' t48 v0 v1 v2 v3 v4 v5 v6)) l' t48 b (fun at' ok rules from' t48 => G0 (q119m0 l' at' ok rules from' t48)) (fun at'4 ok4 rules4 from'4 b3 t103 => iter fu (q119I nf 6 (q119L6 nf G0)) (q119m6 l' t48 b at'4 ok4 rules4 from'4 b3 t103)) at'4 ok4 rules4 from'4 b3 t103 := by kernel_rfl
theorem q119e6 (nf : Nat) (G0 : St → Option (Bool × Int × Unit)) (l' : List TZ01) (t48 : Int) (b : List TZ21 × TStfn1 × Int × Int × Int × List Int × Unit) : ∀ (fu : Nat) (at'4 : List TZ31) (ok4 : Bool) (rules4 : List Int) (from'4 : List (List Int)) (b3 : List TZ21 × TStfn1 × Int × Int × Int × List Int × Unit) (t103 : Int), iter fu (q119I nf 6 (q119L6 nf G0)) (q119m6 l' t48 b at'4 ok4 rules4 from'4 b3 t103) = single_Once_l6 nf l' t48 b (fun at' ok rules from' t48 => G0 (q119m0 l' at' ok rules from' t48)) fu at'4 ok4 rules4 from'4 b3 t103 := by
 intro fu
 induction fu with
 | zero => intros; rfl
 | succ fu ih =>
  intro at'4 ok4 rules4 from'4 b3 t103
  rw [q119h6 nf G0 l' t48 b fu at'4 ok4 rules4 from'4 b3 t103]
  simp only [ih, q119e8, q119e10]
  rfl
theorem q119h4 (nf : Nat) (G0 G2 : St → Option (Bool × Int × Unit)) (l' : List TZ01) (t48 t61 : Int) (fu : Nat) (at'3 : List TZ31) (ok3 : Bool) (rules3 : List Int) (from'3 : List (List Int)) (b2 : List TZ21 × TStfn1 × Int × Int × Int × List Int × Unit) (j : Int × List Int × Unit) (t68 : Int) : iter (fu + 1) (q119I nf 4 (q119L4 nf G0 G2)) (q119m4 l' t48 t61 at'3 ok3 rules3 from'3 b2 j t68) = single_Once_b4 nf l' t48 t61 (fun at'2 ok2 rules2 from'2 b t61 => G2 (q119m2 l' t48 at'2 ok2 rules2 from'2 b t61)) (fun at' ok rules from' t48 => G0 (q119m0 l' at' ok rules from' t48)) (fun at'3 ok3 rules3 from'3 b2 j t68 => iter fu (q119I nf 4 (q119L4 nf G0 G2)) (q119m4 l' t48 t61 at'3 ok3 rules3 from'3 b2 j t68)) at'3 ok3 rules3 from'3 b2 j t68 := by kernel_rfl
theorem q119e4 (nf : Nat) (G0 G2 : St → Option (Bool × Int × Unit)) (l' : List TZ01) (t48 t61 : Int) : ∀ (fu : Nat) (at'3 : List TZ31) (ok3 : Bool) (rules3 : List Int) (from'3 : List (List Int)) (b2 : List TZ21 × TStfn1 × Int × Int × Int × List Int × Unit) (j : Int × List Int × Unit) (t68 : Int), iter fu (q119I nf 4 (q119L4 nf G0 G2)) (q119m4 l' t48 t61 at'3 ok3 rules3 from'3 b2 j t68) = single_Once_l4 nf l' t48 t61 (fun at'2 ok2 rules2 from'2 b t61 => G2 (q119m2 l' t48 at'2 ok2 rules2 from'2 b t61)) (fun at' ok rules from' t48 => G0 (q119m0 l' at' ok rules from' t48)) fu at'3 ok3 rules3 from'3 b2 j t68 := by
 intro fu
 induction fu with
 | zero => intros; rfl
 | succ fu ih =>
  intro at'3 ok3 rules3 from'3 b2 j t68
  rw [q119h4 nf G0 G2 l' t48 t61 fu at'3 ok3 rules3 from'3 b2 j t68]
  simp only [ih]
  rfl
theorem q119h2 (nf : Nat) (G0 : St → Option (Bool × Int × Unit)) (l' : List TZ01) (t48 : Int) (fu : Nat) (at'2 : List TZ31) (ok2 : Bool) (rules2 : List Int) (from'2 : List (List Int)) (b : List TZ21 × TStfn1 × Int × Int × Int × List Int × Unit) (t61 : Int) : iter (fu + 1) (q119I nf 2 (q119L2 nf G0)) (q119m2 l' t48 at'2 ok2 rules2 from'2 b t61) = single_Once_b2 nf (fun _ _ p2 v0 v1 v2 v3 v4 v5 v6 => iter nf (q119I nf 4 (q119L4 nf G0 (iter fu (q119I nf 2 (q119L2 nf G0))))) (q119m4 l' t48 p2 v0 v1 v2 v3 v4 v5 v6)) (fun _ _ p2 v0 v1 v2 v3 v4 v5 => iter nf (q119I nf 6 (q119L6 nf G0)) (q119m6 l' t48 p2 v0 v1 v2 v3 v4 v5)) l' t48 (fun at' ok rules from' t48 => G0 (q119m0 l' at' ok rules from' t48)) (fun at'2 ok2 rules2 from'2 b t61 => iter fu (q119I nf 2 (q119L2 nf G0)) (q119m2 l' t48 at'2 ok2 rules2 from'2 b t61)) at'2 ok2 rules2 from'2 b t61 := by kernel_rfl
theorem q119e2 (nf : Nat) (G0 : St → Option (Bool × Int × Unit)) (l' : List TZ01) (t48 : Int) : ∀ (fu : Nat) (at'2 : List TZ31) (ok2 : Bool) (rules2 : List Int) (from'2 : List (List Int)) (b : List TZ21 × TStfn1 × Int × Int × Int × List Int × Unit) (t61 : Int), iter fu (q119I nf 2 (q119L2 nf G0)) (q119m2 l' t48 at'2 ok2 rules2 from'2 b t61) = single_Once_l2 nf l' t48 (fun at' ok rules from' t48 => G0 (q119m0 l' at' ok rules from' t48)) fu at'2 ok2 rules2 from'2 b t61 := by
 intro fu
 induction fu with
 | zero => intros; rfl
 | succ fu ih =>
  intro at'2 ok2 rules2 from'2 b t61
  rw [q119h2 nf G0 l' t48 fu at'2 ok2 rules2 from'2 b t61]
  simp only [ih, q119e4, q119e6]
  rfl
theorem q119h0 (nf : Nat) (l' : List TZ01) (fu : Nat) (at' : List TZ31) (ok : Bool) (rules : List Int) (from' : List (List Int)) (t48 : Int) : iter (fu + 1) (q119I nf 0 (q119L0 nf)) (q119m0 l' at' ok rules from' t48) = single_Once_b0 nf (fun _ p1 v0 v1 v2 v3 v4 v5 => iter nf (q119I nf 2 (q119L2 nf (iter fu (q119I nf 0 (q119L0 nf))))) (q119m2 l' p1 v0 v1 v2 v3 v4 v5)) l' (fun at' ok rules from' t48 => iter fu (q119I nf 0 (q119L0 nf)) (q119m0 l' at' ok rules from' t48)) at' ok rules from' t48 := by kernel_rfl
theorem q119e0 (nf : Nat) (l' : List TZ01) : ∀ (fu : Nat) (at' : List TZ31) (ok : Bool) (rules : List Int) (from' : List (List Int)) (t48 : Int), iter fu (q119I nf 0 (q119L0 nf)) (q119m0 l' at' ok rules from' t48) = single_Once_l0 nf l' fu at' ok rules from' t48 := by
 intro fu
 induction fu with
 | zero => intros; rfl
 | succ fu ih =>
  intro at' ok rules from' t48
  rw [q119h0 nf l' fu at' ok rules from' t48]
  simp only [ih, q119e2]
  rfl
theorem single_Once_eq (nf : Nat) (vars : Int) (l' : List TZ01) : runF tab (single_Once_phi nf) single_Once_keep nf q119P q119R (resL ([]) Try.f17) (codeOf Try.f17) ⟨vars, l', ()⟩ = single_Once_f nf vars l' := by
 refine Eq.trans (b := single_Once_p nf (fun p0 v0 v1 v2 v3 v4 => iter nf (q119I nf 0 (q119L0 nf)) (q119m0 p0 v0 v1 v2 v3 v4)) vars l') (by kernel_rfl) ?_
 simp only [q119e0]
 rfl
def single_Once_F (nf : Nat) (x : denPs q119P) : Option (denL q119R) := single_Once_f nf x.1 x.2.1
def single_Once_C (nf : Nat) : Contract := ⟨q119P, q119R, single_Once_F nf, []⟩
theorem single_Once_ok : FnOK Try.prog 17 := ⟨Try.f17, codeOf Try.f17, Try.func17, by kernel_rfl, by kernel_rfl⟩
theorem single_Once_holds (nf : Nat) : Contract.Holds Try.prog 17 (single_Once_C nf) :=
 fn_holds (Φ := single_Once_phi nf) (keep := single_Once_keep) (n := nf) ⟨tabs.1, tabs.2, (ctx_cons single_Check_ok (single_Check_holds nf) (ctx_cons single_sets_ok (single_sets_holds nf) (ctx_cons block_Next_ok (block_Next_holds nf) (ctx_cons single_bare_ok (single_bare_holds nf) (ctx_cons rule_Rules_ok (rule_Rules_holds nf) (ctx_cons single_From_ok (single_From_holds nf) (ctx_cons single_Once_1_ok (single_Once_1_holds nf) (ctx_cons single_uses_ok (single_uses_holds nf) (ctx_cons slices_Clone_ok (slices_Clone_holds nf) ctx_nil))))))))), mixed, bk_ok bkls rfl⟩ (fn := Try.f17) ⟨Try.func17, by kernel_rfl, by kernel_rfl, by kernel_rfl⟩ (fun x => single_Once_eq nf x.1 x.2.1)

/-! codemason codemasonref.Inside -/
abbrev q120P : List PT := [.val (.int .i64) (.bor true false), .val (.sl (.int .i64)) (.bor true false)]
abbrev q120R : List (Ty × Md) := [(.bool, .bor false true)]
def ref_Inside_phi (_ : Nat) : Nat → Option Contract := lookC []
def ref_Inside_keep : Nat → List Nat := lookK [(0, [0, 1, 7, 8, 9])]
def ref_Inside_b0 (_ : Nat) (n' : Int) (l' : List Int) (g0 : Int → Option (Bool × Unit)) (t9 : Int) : Option (Bool × Unit) :=
 bif decide (t9 < (l'.length : Int)) then
  bif inb t9 l'.length then
   bif decide (l'.getD t9.toNat 0 < 0) then
    some ((false, ()))
   else
    bif decide (l'.getD t9.toNat 0 ≥ n') then
     some ((false, ()))
    else
     g0 (IntKind.i64.wrap (t9 + 1))
  else
   none
 else
  some ((true, ()))
def ref_Inside_p (_ : Nat) (l0 : Int → List Int → Int → Option (Bool × Unit)) (n' : Int) (l' : List Int) : Option (Bool × Unit) :=
 l0 n' l' 0
def ref_Inside_l0 (nf : Nat) (n' : Int) (l' : List Int) : Nat → Int → Option (Bool × Unit)
 | 0, _ => none
 | fu + 1, t9 => ref_Inside_b0 nf n' l' (ref_Inside_l0 nf n' l' fu) t9
def ref_Inside_f (nf : Nat) (n' : Int) (l' : List Int) : Option (Bool × Unit) := ref_Inside_p nf (fun p0 p1 v0 => ref_Inside_l0 nf p0 p1 nf v0) n' l'
def q120I (nf b : Nat) (L : LC (Bool × Unit)) := LC.F tab (ref_Inside_phi nf) (fun _ F => iter nf F) ref_Inside_keep b L
def q120L0 (nf : Nat) : LC (Bool × Unit) := theL (findL tab (ref_Inside_phi nf) (fun _ F => iter nf F) ref_Inside_keep 0 0 (codeOf Try.f15) (fin tab q120R (resL ([]) Try.f15)) (fun _ _ => none) (fin tab q120R (resL ([]) Try.f15)))
def q120m0 (n' : Int) (l' : List Int) (t9 : Int) : St := ⟨fresh, [(0, vI1 n'), (1, AV.v iT1.sl mR1 l'), (7, AV.v iT1.sl mR1 l'), (8, vI1 (l'.length : Int)), (9, vI1 t9)]⟩
theorem q120h0 (nf : Nat) (n' : Int) (l' : List Int) (fu : Nat) (t9 : Int) : iter (fu + 1) (q120I nf 0 (q120L0 nf)) (q120m0 n' l' t9) = ref_Inside_b0 nf n' l' (fun t9 => iter fu (q120I nf 0 (q120L0 nf)) (q120m0 n' l' t9)) t9 := by kernel_rfl
theorem q120e0 (nf : Nat) (n' : Int) (l' : List Int) : ∀ (fu : Nat) (t9 : Int), iter fu (q120I nf 0 (q120L0 nf)) (q120m0 n' l' t9) = ref_Inside_l0 nf n' l' fu t9 := by
 intro fu
 induction fu with
 | zero => intros; rfl
 | succ fu ih =>
  intro t9
  rw [q120h0 nf n' l' fu t9]
  simp only [ih]
  rfl
theorem ref_Inside_eq (nf : Nat) (n' : Int) (l' : List Int) : runF tab (ref_Inside_phi nf) ref_Inside_keep nf q120P q120R (resL ([]) Try.f15) (codeOf Try.f15) ⟨n', l', ()⟩ = ref_Inside_f nf n' l' := by
 refine Eq.trans (b := ref_Inside_p nf (fun p0 p1 v0 => iter nf (q120I nf 0 (q120L0 nf)) (q120m0 p0 p1 v0)) n' l') (by kernel_rfl) ?_
 simp only [q120e0]
 rfl
def ref_Inside_F (nf : Nat) (x : denPs q120P) : Option (denL q120R) := ref_Inside_f nf x.1 x.2.1
def ref_Inside_C (nf : Nat) : Contract := ⟨q120P, q120R, ref_Inside_F nf, []⟩
theorem ref_Inside_ok : FnOK Try.prog 15 := ⟨Try.f15, codeOf Try.f15, Try.func15, by kernel_rfl, by kernel_rfl⟩
theorem ref_Inside_holds (nf : Nat) : Contract.Holds Try.prog 15 (ref_Inside_C nf) :=
 fn_holds (Φ := ref_Inside_phi nf) (keep := ref_Inside_keep) (n := nf) ⟨tabs.1, tabs.2, ctx_nil, mixed, bk_ok bkls rfl⟩ (fn := Try.f15) ⟨Try.func15, by kernel_rfl, by kernel_rfl, by kernel_rfl⟩ (fun x => ref_Inside_eq nf x.1 x.2.1)

/-! codemason codemasonref.Has -/
abbrev q121P : List PT := [.val (.sl (.int .i64)) (.bor true false), .val (.int .i64) (.bor true false)]
abbrev q121R : List (Ty × Md) := [(.bool, .bor false true)]
def ref_Has_phi (_ : Nat) : Nat → Option Contract := lookC []
def ref_Has_keep : Nat → List Nat := lookK [(0, [0, 1, 7, 8, 9])]
def ref_Has_b0 (_ : Nat) (l' : List Int) (x : Int) (g0 : Int → Option (Bool × Unit)) (t9 : Int) : Option (Bool × Unit) :=
 bif decide (t9 < (l'.length : Int)) then
  bif inb t9 l'.length then
   bif x == l'.getD t9.toNat 0 then
    some ((true, ()))
   else
    g0 (IntKind.i64.wrap (t9 + 1))
  else
   none
 else
  some ((false, ()))
def ref_Has_p (_ : Nat) (l0 : List Int → Int → Int → Option (Bool × Unit)) (l' : List Int) (x : Int) : Option (Bool × Unit) :=
 l0 l' x 0
def ref_Has_l0 (nf : Nat) (l' : List Int) (x : Int) : Nat → Int → Option (Bool × Unit)
 | 0, _ => none
 | fu + 1, t9 => ref_Has_b0 nf l' x (ref_Has_l0 nf l' x fu) t9
def ref_Has_f (nf : Nat) (l' : List Int) (x : Int) : Option (Bool × Unit) := ref_Has_p nf (fun p0 p1 v0 => ref_Has_l0 nf p0 p1 nf v0) l' x
def q121I (nf b : Nat) (L : LC (Bool × Unit)) := LC.F tab (ref_Has_phi nf) (fun _ F => iter nf F) ref_Has_keep b L
def q121L0 (nf : Nat) : LC (Bool × Unit) := theL (findL tab (ref_Has_phi nf) (fun _ F => iter nf F) ref_Has_keep 0 0 (codeOf Try.f16) (fin tab q121R (resL ([]) Try.f16)) (fun _ _ => none) (fin tab q121R (resL ([]) Try.f16)))
def q121m0 (l' : List Int) (x t9 : Int) : St := ⟨fresh, [(0, AV.v iT1.sl mR1 l'), (1, vI1 x), (7, AV.v iT1.sl mR1 l'), (8, vI1 (l'.length : Int)), (9, vI1 t9)]⟩
theorem q121h0 (nf : Nat) (l' : List Int) (x : Int) (fu : Nat) (t9 : Int) : iter (fu + 1) (q121I nf 0 (q121L0 nf)) (q121m0 l' x t9) = ref_Has_b0 nf l' x (fun t9 => iter fu (q121I nf 0 (q121L0 nf)) (q121m0 l' x t9)) t9 := by kernel_rfl
theorem q121e0 (nf : Nat) (l' : List Int) (x : Int) : ∀ (fu : Nat) (t9 : Int), iter fu (q121I nf 0 (q121L0 nf)) (q121m0 l' x t9) = ref_Has_l0 nf l' x fu t9 := by
 intro fu
 induction fu with
 | zero => intros; rfl
 | succ fu ih =>
  intro t9
  rw [q121h0 nf l' x fu t9]
  simp only [ih]
  rfl
theorem ref_Has_eq (nf : Nat) (l' : List Int) (x : Int) : runF tab (ref_Has_phi nf) ref_Has_keep nf q121P q121R (resL ([]) Try.f16) (codeOf Try.f16) ⟨l', x, ()⟩ = ref_Has_f nf l' x := by
 refine Eq.trans (b := ref_Has_p nf (fun p0 p1 v0 => iter nf (q121I nf 0 (q121L0 nf)) (q121m0 p0 p1 v0)) l' x) (by kernel_rfl) ?_
 simp only [q121e0]
 rfl
def ref_Has_F (nf : Nat) (x : denPs q121P) : Option (denL q121R) := ref_Has_f nf x.1 x.2.1
def ref_Has_C (nf : Nat) : Contract := ⟨q121P, q121R, ref_Has_F nf, []⟩
theorem ref_Has_ok : FnOK Try.prog 16 := ⟨Try.f16, codeOf Try.f16, Try.func16, by kernel_rfl, by kernel_rfl⟩
theorem ref_Has_holds (nf : Nat) : Contract.Holds Try.prog 16 (ref_Has_C nf) :=
 fn_holds (Φ := ref_Has_phi nf) (keep := ref_Has_keep) (n := nf) ⟨tabs.1, tabs.2, ctx_nil, mixed, bk_ok bkls rfl⟩ (fn := Try.f16) ⟨Try.func16, by kernel_rfl, by kernel_rfl, by kernel_rfl⟩ (fun x => ref_Has_eq nf x.1 x.2.1)

/-! codemason codemasonref.Turned -/
abbrev q122P : List PT := [.val (.sl (.sl (.int .i64))) (.bor true false)]
abbrev q122R : List (Ty × Md) := [(.sl (.sl (.int .i64)), .own false (.bor false false))]
def ref_Turned_tab : Tab := ⟨lookT tyL, lookM ([(22, .own false (.own true (.bor false true)))] ++ mdL), hasT [77, 132], hasT [9, 10, 11], fun _ => none, lookB bkl⟩
theorem ref_Turned_tabs : TabOK Try.prog ref_Turned_tab ∧ EqOK Try.prog ref_Turned_tab := tab_ok (by kernel_rfl) (by kernel_rfl)
def ref_Turned_phi (nf : Nat) : Nat → Option Contract := lookC [(16, ref_Has_C nf)]
def ref_Turned_keep : Nat → List Nat := lookK [(2, [0, 3, 4, 5, 8]), (0, [0, 3, 4, 8])]
def ref_Turned_b0 (_ : Nat) (l2 : List (List Int) → Int → List (List Int) → Int → Option TZ41) (next : List (List Int)) (_ : List (List Int) → Int → Option TZ41) (out : List (List Int)) (j : Int) : Option TZ41 :=
 bif decide (j < (next.length : Int)) then
  l2 next j out 0
 else
  some ((out, ()))
def ref_Turned_b2 (nf : Nat) (next : List (List Int)) (j : Int) (g0 g2 : List (List Int) → Int → Option TZ41) (out2 : List (List Int)) (i : Int) : Option TZ41 :=
 bif decide (i < (next.length : Int)) then
  bif inb i next.length then
   Option.bind (ref_Has_f nf (next.getD i.toNat []) j) fun r =>
   bif r.1 then
    bif inb j out2.length then
     bif ![i].isEmpty && (List.length (out2.getD j.toNat []) + [i].length).ble lim then
      bif inb j out2.length then
       bif decide ([Stp.el j.toNat] = [] ++ [Stp.el j.toNat]) then
        g2 (out2.set j.toNat (out2.getD j.toNat [] ++ [i])) (IntKind.i64.wrap (i + 1))
       else
        none
      else
       none
     else
      none
    else
     none
   else
    g2 out2 (IntKind.i64.wrap (i + 1))
  else
   none
 else
  g0 out2 (IntKind.i64.wrap (j + 1))
def ref_Turned_p (_ : Nat) (l0 : List (List Int) → List (List Int) → Int → Option TZ41) (next : List (List Int)) : Option TZ41 :=
 bif decide (0 ≤ (next.length : Int)) && decide ((next.length : Int) ≤ (next.length : Int)) && decide ((next.length : Int) ≤ (lim : Int)) then
  l0 next (List.replicate (next.length : Int).toNat []) 0
 else
  none
def ref_Turned_l2 (nf : Nat) (next : List (List Int)) (j : Int) (g0 : List (List Int) → Int → Option TZ41) : Nat → List (List Int) → Int → Option TZ41
 | 0, _, _ => none
 | fu + 1, out2, i => ref_Turned_b2 nf next j g0 (ref_Turned_l2 nf next j g0 fu) out2 i
def ref_Turned_l0 (nf : Nat) (next : List (List Int)) : Nat → List (List Int) → Int → Option TZ41
 | 0, _, _ => none
 | fu + 1, out, j => ref_Turned_b0 nf (fun _ p1 v0 v1 => ref_Turned_l2 nf next p1 (fun out j => ref_Turned_l0 nf next fu out j) nf v0 v1) next (ref_Turned_l0 nf next fu) out j
def ref_Turned_f (nf : Nat) (next : List (List Int)) : Option TZ41 := ref_Turned_p nf (fun p0 v0 v1 => ref_Turned_l0 nf p0 nf v0 v1) next
def q122I (nf b : Nat) (L : LC TZ41) := LC.F ref_Turned_tab (ref_Turned_phi nf) (fun _ F => iter nf F) ref_Turned_keep b L
def q122L0 (nf : Nat) : LC TZ41 := theL (findL ref_Turned_tab (ref_Turned_phi nf) (fun _ F => iter nf F) ref_Turned_keep 0 0 (codeOf Try.f36) (fin ref_Turned_tab q122R (resL ([]) Try.f36)) (fun _ _ => none) (fin ref_Turned_tab q122R (resL ([]) Try.f36)))
def q122m0 (next out : List (List Int)) (j : Int) : St := ⟨fresh, [(0, AV.v iT1.sl.sl mR1 next), (3, AV.ow 500003 iT1.sl.sl (Md.own false (Md.own true mF1)) out), (4, vI1 j), (8, AV.dead)]⟩
def q122L2 (nf : Nat) (G0 : St → Option TZ41) : LC TZ41 := theL (findL ref_Turned_tab (ref_Turned_phi nf) (fun _ F => iter nf F) ref_Turned_keep 2 0 (q122L0 nf).c (fun st => norm (ref_Turned_keep 0) st G0) (q122L0 nf).Kx (q122L0 nf).Kr)
def q122m2 (next : List (List Int)) (j : Int) (out2 : List (List Int)) (i : Int) : St := ⟨fresh, [(0, AV.v iT1.sl.sl mR1 next), (3, AV.ow 500003 iT1.sl.sl (Md.own false (Md.own true mF1)) out2), (4, vI1 j), (5, vI1 i), (8, AV.dead)]⟩
theorem q122h2 (nf : Nat) (G0 : St → Option TZ41) (next : List (List Int)) (j : Int) (fu : Nat) (out2 : List (List Int)) (i : Int) : iter (fu + 1) (q122I nf 2 (q122L2 nf G0)) (q122m2 next j out2 i) = ref_Turned_b2 nf next j (fun out j => G0 (q122m0 next out j)) (fun out2 i => iter fu (q122I nf 2 (q122L2 nf G0)) (q122m2 next j out2 i)) out2 i := by kernel_rfl
theorem q122e2 (nf : Nat) (G0 : St → Option TZ41) (next : List (List Int)) (j : Int) : ∀ (fu : Nat) (out2 : List (List Int)) (i : Int), iter fu (q122I nf 2 (q122L2 nf G0)) (q122m2 next j out2 i) = ref_Turned_l2 nf next j (fun out j => G0 (q122m0 next out j)) fu out2 i := by
 intro fu
 induction fu with
 | zero => intros; rfl
 | succ fu ih =>
  intro out2 i
  rw [q122h2 nf G0 next j fu out2 i]
  simp only [ih]
  rfl
theorem q122h0 (nf : Nat) (next : List (List Int)) (fu : Nat) (out : List (List Int)) (j : Int) : iter (fu + 1) (q122I nf 0 (q122L0 nf)) (q122m0 next out j) = ref_Turned_b0 nf (fun _ p1 v0 v1 => iter nf (q122I nf 2 (q122L2 nf (iter fu (q122I nf 0 (q122L0 nf))))) (q122m2 next p1 v0 v1)) next (fun out j => iter fu (q122I nf 0 (q122L0 nf)) (q122m0 next out j)) out j := by kernel_rfl
theorem q122e0 (nf : Nat) (next : List (List Int)) : ∀ (fu : Nat) (out : List (List Int)) (j : Int), iter fu (q122I nf 0 (q122L0 nf)) (q122m0 next out j) = ref_Turned_l0 nf next fu out j := by
 intro fu
 induction fu with
 | zero => intros; rfl
 | succ fu ih =>
  intro out j
  rw [q122h0 nf next fu out j]
  simp only [ih, q122e2]
  rfl
theorem ref_Turned_eq (nf : Nat) (next : List (List Int)) : runF ref_Turned_tab (ref_Turned_phi nf) ref_Turned_keep nf q122P q122R (resL ([]) Try.f36) (codeOf Try.f36) ⟨next, ()⟩ = ref_Turned_f nf next := by
 refine Eq.trans (b := ref_Turned_p nf (fun p0 v0 v1 => iter nf (q122I nf 0 (q122L0 nf)) (q122m0 p0 v0 v1)) next) (by kernel_rfl) ?_
 simp only [q122e0]
 rfl
def ref_Turned_F (nf : Nat) (x : denPs q122P) : Option (denL q122R) := ref_Turned_f nf x.1
def ref_Turned_C (nf : Nat) : Contract := ⟨q122P, q122R, ref_Turned_F nf, []⟩
theorem ref_Turned_ok : FnOK Try.prog 36 := ⟨Try.f36, codeOf Try.f36, Try.func36, by kernel_rfl, by kernel_rfl⟩
theorem ref_Turned_holds (nf : Nat) : Contract.Holds Try.prog 36 (ref_Turned_C nf) :=
 fn_holds (Φ := ref_Turned_phi nf) (keep := ref_Turned_keep) (n := nf) ⟨ref_Turned_tabs.1, ref_Turned_tabs.2, (ctx_cons ref_Has_ok (ref_Has_holds nf) ctx_nil), mixed, bk_ok bkls rfl⟩ (fn := Try.f36) ⟨Try.func36, by kernel_rfl, by kernel_rfl, by kernel_rfl⟩ (fun x => ref_Turned_eq nf x.1)

/-! codemason codemasonref.Froms -/
abbrev q123P : List PT := [.val (.sl (.sl (.int .i64))) (.bor true false)]
abbrev q123R : List (Ty × Md) := [(.sl (.sl (.int .i64)), .own false (.bor false false))]
def ref_Froms_phi (nf : Nat) : Nat → Option Contract := lookC [(36, ref_Turned_C nf)]
def ref_Froms_keep : Nat → List Nat := lookK []
def ref_Froms_p (nf : Nat) (next : List (List Int)) : Option TZ41 :=
 Option.bind (ref_Turned_f nf next) fun r =>
 bif inb 0 (List.length r.1) then
  bif bimp false !List.isEmpty (List.getD r.1 0 []) && ([-1].length + List.length (List.getD r.1 0 [])).ble lim then
   bif inb 0 (List.length r.1) then
    some ((List.set r.1 0 ([-1] ++ List.getD r.1 0 []), ()))
   else
    none
  else
   none
 else
  none
def ref_Froms_f (nf : Nat) (next : List (List Int)) : Option TZ41 := ref_Froms_p nf next
theorem ref_Froms_eq (nf : Nat) (next : List (List Int)) : runF tab (ref_Froms_phi nf) ref_Froms_keep nf q123P q123R (resL ([]) Try.f48) (codeOf Try.f48) ⟨next, ()⟩ = ref_Froms_f nf next := by kernel_rfl
def ref_Froms_F (nf : Nat) (x : denPs q123P) : Option (denL q123R) := ref_Froms_f nf x.1
def ref_Froms_C (nf : Nat) : Contract := ⟨q123P, q123R, ref_Froms_F nf, []⟩
theorem ref_Froms_ok : FnOK Try.prog 48 := ⟨Try.f48, codeOf Try.f48, Try.func48, by kernel_rfl, by kernel_rfl⟩
theorem ref_Froms_holds (nf : Nat) : Contract.Holds Try.prog 48 (ref_Froms_C nf) :=
 fn_holds (Φ := ref_Froms_phi nf) (keep := ref_Froms_keep) (n := nf) ⟨tabs.1, tabs.2, (ctx_cons ref_Turned_ok (ref_Turned_holds nf) ctx_nil), mixed, bk_ok bkls rfl⟩ (fn := Try.f48) ⟨Try.func48, by kernel_rfl, by kernel_rfl, by kernel_rfl⟩ (fun x => ref_Froms_eq nf x.1)

/-! codemason codemasonref.Nexts -/
abbrev q124P : List PT := [.val (.sl (.pair (.sl tI5fn1) (.pair (.int .i64) (.pair (.int .i64) (.pair (.int .i64) (.unit)))))) (.bor true false)]
abbrev q124R : List (Ty × Md) := [(.sl (.sl (.int .i64)), .own false (.bor false false))]
def ref_Nexts_phi (_ : Nat) : Nat → Option Contract := lookC []
def ref_Nexts_keep : Nat → List Nat := lookK [(0, [0, 3, 7, 8, 9])]
def ref_Nexts_b0 (_ : Nat) (p : TBlfn1) (g0 : List (List Int) → Int → Option TZ41) (out : List (List Int)) (t9 : Int) : Option TZ41 :=
 bif decide (t9 < (p.length : Int)) then
  bif inb t9 p.length then
   bif (p.getD t9.toNat ([], 0, 0, 0, ())).2.2.1 != (-1) then
    bif (p.getD t9.toNat ([], 0, 0, 0, ())).2.1 != (-1) then
     bif (p.getD t9.toNat ([], 0, 0, 0, ())).2.2.1 != (p.getD t9.toNat ([], 0, 0, 0, ())).2.2.2.1 then
      bif !false && leM iT1.sl 0 mL1 mL1 && (out.length + [[] ++ [(p.getD t9.toNat ([], 0, 0, 0, ())).2.2.1] ++ [(p.getD t9.toNat ([], 0, 0, 0, ())).2.2.2.1]].length).ble lim then
       g0 (out ++ [[] ++ [(p.getD t9.toNat ([], 0, 0, 0, ())).2.2.1] ++ [(p.getD t9.toNat ([], 0, 0, 0, ())).2.2.2.1]]) (IntKind.i64.wrap (t9 + 1))
      else
       none
     else
      bif !false && leM iT1.sl 0 mL1 mL1 && (out.length + [[] ++ [(p.getD t9.toNat ([], 0, 0, 0, ())).2.2.1]].length).ble lim then
       g0 (out ++ [[] ++ [(p.getD t9.toNat ([], 0, 0, 0, ())).2.2.1]]) (IntKind.i64.wrap (t9 + 1))
      else
       none
    else
     bif !false && leM iT1.sl 0 mL1 mL1 && (out.length + [[] ++ [(p.getD t9.toNat ([], 0, 0, 0, ())).2.2.1]].length).ble lim then
      g0 (out ++ [[] ++ [(p.getD t9.toNat ([], 0, 0, 0, ())).2.2.1]]) (IntKind.i64.wrap (t9 + 1))
     else
      none
   else
    bif (p.getD t9.toNat ([], 0, 0, 0, ())).2.1 != (-1) then
     bif (p.getD t9.toNat ([], 0, 0, 0, ())).2.2.1 != (p.getD t9.toNat ([], 0, 0, 0, ())).2.2.2.1 then
      bif !false && leM iT1.sl 0 mL1 mL1 && (out.length + [[] ++ [(p.getD t9.toNat ([], 0, 0, 0, ())).2.2.2.1]].length).ble lim then
       g0 (out ++ [[] ++ [(p.getD t9.toNat ([], 0, 0, 0, ())).2.2.2.1]]) (IntKind.i64.wrap (t9 + 1))
      else
       none
     else
      bif !false && leM iT1.sl 0 mL1 mL1 && (out.length + [([] : List Unit)].length).ble lim then
       g0 (out ++ [[]]) (IntKind.i64.wrap (t9 + 1))
      else
       none
    else
     bif !false && leM iT1.sl 0 mL1 mL1 && (out.length + [([] : List Unit)].length).ble lim then
      g0 (out ++ [[]]) (IntKind.i64.wrap (t9 + 1))
     else
      none
  else
   none
 else
  some ((out, ()))
def ref_Nexts_p (_ : Nat) (l0 : TBlfn1 → List (List Int) → Int → Option TZ41) (p : TBlfn1) : Option TZ41 :=
 l0 p [] 0
def ref_Nexts_l0 (nf : Nat) (p : TBlfn1) : Nat → List (List Int) → Int → Option TZ41
 | 0, _, _ => none
 | fu + 1, out, t9 => ref_Nexts_b0 nf p (ref_Nexts_l0 nf p fu) out t9
def ref_Nexts_f (nf : Nat) (p : TBlfn1) : Option TZ41 := ref_Nexts_p nf (fun p0 v0 v1 => ref_Nexts_l0 nf p0 nf v0 v1) p
def q124I (nf b : Nat) (L : LC TZ41) := LC.F tab (ref_Nexts_phi nf) (fun _ F => iter nf F) ref_Nexts_keep b L
def q124L0 (nf : Nat) : LC TZ41 := theL (findL tab (ref_Nexts_phi nf) (fun _ F => iter nf F) ref_Nexts_keep 0 0 (codeOf Try.f49) (fin tab q124R (resL ([]) Try.f49)) (fun _ _ => none) (fin tab q124R (resL ([]) Try.f49)))
def q124m0 (p : TBlfn1) (out : List (List Int)) (t9 : Int) : St := ⟨fresh, [(0, AV.v (tI5fn1.sl.pair (iT1.pair tI2fn1)).sl mR1 p), (3, AV.ow 500003 iT1.sl.sl (Md.own false mL1) out), (7, AV.v (tI5fn1.sl.pair (iT1.pair tI2fn1)).sl mR1 p), (8, vI1 (p.length : Int)), (9, vI1 t9)]⟩
theorem q124h0 (nf : Nat) (p : TBlfn1) (fu : Nat) (out : List (List Int)) (t9 : Int) : iter (fu + 1) (q124I nf 0 (q124L0 nf)) (q124m0 p out t9) = ref_Nexts_b0 nf p (fun out t9 => iter fu (q124I nf 0 (q124L0 nf)) (q124m0 p out t9)) out t9 := by kernel_rfl
theorem q124e0 (nf : Nat) (p : TBlfn1) : ∀ (fu : Nat) (out : List (List Int)) (t9 : Int), iter fu (q124I nf 0 (q124L0 nf)) (q124m0 p out t9) = ref_Nexts_l0 nf p fu out t9 := by
 intro fu
 induction fu with
 | zero => intros; rfl
 | succ fu ih =>
  intro out t9
  rw [q124h0 nf p fu out t9]
  simp only [ih]
  rfl
theorem ref_Nexts_eq (nf : Nat) (p : TBlfn1) : runF tab (ref_Nexts_phi nf) ref_Nexts_keep nf q124P q124R (resL ([]) Try.f49) (codeOf Try.f49) ⟨p, ()⟩ = ref_Nexts_f nf p := by
 refine Eq.trans (b := ref_Nexts_p nf (fun p0 v0 v1 => iter nf (q124I nf 0 (q124L0 nf)) (q124m0 p0 v0 v1)) p) (by kernel_rfl) ?_
 simp only [q124e0]
 rfl
def ref_Nexts_F (nf : Nat) (x : denPs q124P) : Option (denL q124R) := ref_Nexts_f nf x.1
def ref_Nexts_C (nf : Nat) : Contract := ⟨q124P, q124R, ref_Nexts_F nf, []⟩
theorem ref_Nexts_ok : FnOK Try.prog 49 := ⟨Try.f49, codeOf Try.f49, Try.func49, by kernel_rfl, by kernel_rfl⟩
theorem ref_Nexts_holds (nf : Nat) : Contract.Holds Try.prog 49 (ref_Nexts_C nf) :=
 fn_holds (Φ := ref_Nexts_phi nf) (keep := ref_Nexts_keep) (n := nf) ⟨tabs.1, tabs.2, ctx_nil, mixed, bk_ok bkls rfl⟩ (fn := Try.f49) ⟨Try.func49, by kernel_rfl, by kernel_rfl, by kernel_rfl⟩ (fun x => ref_Nexts_eq nf x.1)

/-! codemason codemasonref.Bare -/
abbrev q125P : List PT := [.val (.sl (.pair (.sl (.pair (.int .i64) (.pair (.sl (.int .i64)) (.unit)))) (.pair (.sl tI5fn1) (.pair (.int .i64) (.pair (.int .i64) (.pair (.int .i64) (.pair (.sl (.int .i64)) (.unit)))))))) (.bor true false)]
abbrev q125R : List (Ty × Md) := [(.sl (.pair (.sl tI5fn1) (.pair (.int .i64) (.pair (.int .i64) (.pair (.int .i64) (.unit))))), .own false (.bor false false))]
def ref_Bare_phi (_ : Nat) : Nat → Option Contract := lookC []
def ref_Bare_keep : Nat → List Nat := lookK [(0, [0, 3, 6, 7, 8])]
def ref_Bare_b0 (_ : Nat) (l' : List TZ01) (g0 : TBlfn1 → Int → Option (TBlfn1 × Unit)) (p : TBlfn1) (t8 : Int) : Option (TBlfn1 × Unit) :=
 bif decide (t8 < (l'.length : Int)) then
  bif inb t8 l'.length then
   bif !false && leM (tI5fn1.sl.pair (iT1.pair tI2fn1)) 0 mL1 mL1 && (p.length + [(([] : TStfn1), (l'.getD t8.toNat ([], [], 0, 0, 0, [], ())).2.2.1, (l'.getD t8.toNat ([], [], 0, 0, 0, [], ())).2.2.2.1, (l'.getD t8.toNat ([], [], 0, 0, 0, [], ())).2.2.2.2.1, ())].length).ble lim then
    g0 (p ++ [(([] : TStfn1), (l'.getD t8.toNat ([], [], 0, 0, 0, [], ())).2.2.1, (l'.getD t8.toNat ([], [], 0, 0, 0, [], ())).2.2.2.1, (l'.getD t8.toNat ([], [], 0, 0, 0, [], ())).2.2.2.2.1, ())]) (IntKind.i64.wrap (t8 + 1))
   else
    none
  else
   none
 else
  some ((p, ()))
def ref_Bare_p (_ : Nat) (l0 : List TZ01 → TBlfn1 → Int → Option (TBlfn1 × Unit)) (l' : List TZ01) : Option (TBlfn1 × Unit) :=
 l0 l' [] 0
def ref_Bare_l0 (nf : Nat) (l' : List TZ01) : Nat → TBlfn1 → Int → Option (TBlfn1 × Unit)
 | 0, _, _ => none
 | fu + 1, p, t8 => ref_Bare_b0 nf l' (ref_Bare_l0 nf l' fu) p t8
def ref_Bare_f (nf : Nat) (l' : List TZ01) : Option (TBlfn1 × Unit) := ref_Bare_p nf (fun p0 v0 v1 => ref_Bare_l0 nf p0 nf v0 v1) l'
def q125I (nf b : Nat) (L : LC (TBlfn1 × Unit)) := LC.F tab (ref_Bare_phi nf) (fun _ F => iter nf F) ref_Bare_keep b L
def q125L0 (nf : Nat) : LC (TBlfn1 × Unit) := theL (findL tab (ref_Bare_phi nf) (fun _ F => iter nf F) ref_Bare_keep 0 0 (codeOf Try.f50) (fin tab q125R (resL ([]) Try.f50)) (fun _ _ => none) (fin tab q125R (resL ([]) Try.f50)))
def q125m0 (l' : List TZ01) (p : TBlfn1) (t8 : Int) : St := ⟨fresh, [(0, AV.v tZ11.sl mR1 l'), (3, AV.ow 500003 (tI5fn1.sl.pair (iT1.pair tI2fn1)).sl (Md.own false mL1) p), (6, AV.v tZ11.sl mR1 l'), (7, vI1 (l'.length : Int)), (8, vI1 t8)]⟩
theorem q125h0 (nf : Nat) (l' : List TZ01) (fu : Nat) (p : TBlfn1) (t8 : Int) : iter (fu + 1) (q125I nf 0 (q125L0 nf)) (q125m0 l' p t8) = ref_Bare_b0 nf l' (fun p t8 => iter fu (q125I nf 0 (q125L0 nf)) (q125m0 l' p t8)) p t8 := by kernel_rfl
theorem q125e0 (nf : Nat) (l' : List TZ01) : ∀ (fu : Nat) (p : TBlfn1) (t8 : Int), iter fu (q125I nf 0 (q125L0 nf)) (q125m0 l' p t8) = ref_Bare_l0 nf l' fu p t8 := by
 intro fu
 induction fu with
 | zero => intros; rfl
 | succ fu ih =>
  intro p t8
  rw [q125h0 nf l' fu p t8]
  simp only [ih]
  rfl
theorem ref_Bare_eq (nf : Nat) (l' : List TZ01) : runF tab (ref_Bare_phi nf) ref_Bare_keep nf q125P q125R (resL ([]) Try.f50) (codeOf Try.f50) ⟨l', ()⟩ = ref_Bare_f nf l' := by
 refine Eq.trans (b := ref_Bare_p nf (fun p0 v0 v1 => iter nf (q125I nf 0 (q125L0 nf)) (q125m0 p0 v0 v1)) l') (by kernel_rfl) ?_
 simp only [q125e0]
 rfl
def ref_Bare_F (nf : Nat) (x : denPs q125P) : Option (denL q125R) := ref_Bare_f nf x.1
def ref_Bare_C (nf : Nat) : Contract := ⟨q125P, q125R, ref_Bare_F nf, []⟩
theorem ref_Bare_ok : FnOK Try.prog 50 := ⟨Try.f50, codeOf Try.f50, Try.func50, by kernel_rfl, by kernel_rfl⟩
theorem ref_Bare_holds (nf : Nat) : Contract.Holds Try.prog 50 (ref_Bare_C nf) :=
 fn_holds (Φ := ref_Bare_phi nf) (keep := ref_Bare_keep) (n := nf) ⟨tabs.1, tabs.2, ctx_nil, mixed, bk_ok bkls rfl⟩ (fn := Try.f50) ⟨Try.func50, by kernel_rfl, by kernel_rfl, by kernel_rfl⟩ (fun x => ref_Bare_eq nf x.1)

/-! codemason codemasonref.Value -/
abbrev q126P : List PT := [.val (.int .i64) (.bor true false)]
abbrev q126R : List (Ty × Md) := [(.bool, .bor false true)]
def ref_Value_phi (_ : Nat) : Nat → Option Contract := lookC []
def ref_Value_keep : Nat → List Nat := lookK []
def ref_Value_p (_ : Nat) (x : Int) : Option (Bool × Unit) :=
 bif decide (x ≥ 0) then
  some ((decide (x ≤ 255), ()))
 else
  some ((false, ()))
def ref_Value_f (nf : Nat) (x : Int) : Option (Bool × Unit) := ref_Value_p nf x
theorem ref_Value_eq (nf : Nat) (x : Int) : runF tab (ref_Value_phi nf) ref_Value_keep nf q126P q126R (resL ([]) Try.f51) (codeOf Try.f51) ⟨x, ()⟩ = ref_Value_f nf x := by kernel_rfl
def ref_Value_F (nf : Nat) (x : denPs q126P) : Option (denL q126R) := ref_Value_f nf x.1
def ref_Value_C (nf : Nat) : Contract := ⟨q126P, q126R, ref_Value_F nf, []⟩
theorem ref_Value_ok : FnOK Try.prog 51 := ⟨Try.f51, codeOf Try.f51, Try.func51, by kernel_rfl, by kernel_rfl⟩
theorem ref_Value_holds (nf : Nat) : Contract.Holds Try.prog 51 (ref_Value_C nf) :=
 fn_holds (Φ := ref_Value_phi nf) (keep := ref_Value_keep) (n := nf) ⟨tabs.1, tabs.2, ctx_nil, mixed, bk_ok bkls rfl⟩ (fn := Try.f51) ⟨Try.func51, by kernel_rfl, by kernel_rfl, by kernel_rfl⟩ (fun x => ref_Value_eq nf x.1)

/-! codemason codemasonref.SingleCheck -/
abbrev q127P : List PT := [.val (.int .i64) (.bor true false), .val (.sl (.pair (.sl (.pair (.int .i64) (.pair (.sl (.int .i64)) (.unit)))) (.pair (.sl tI5fn1) (.pair (.int .i64) (.pair (.int .i64) (.pair (.int .i64) (.pair (.sl (.int .i64)) (.unit)))))))) (.bor true false)]
abbrev q127R : List (Ty × Md) := [(.int .i64, .bor false true)]
def ref_SingleCheck_phi (nf : Nat) : Nat → Option Contract := lookC [(15, ref_Inside_C nf), (48, ref_Froms_C nf), (49, ref_Nexts_C nf), (50, ref_Bare_C nf), (51, ref_Value_C nf)]
def ref_SingleCheck_keep : Nat → List Nat := lookK [(8, [1, 11, 13, 114, 115, 116, 117, 150, 151, 152, 153]), (6, [1, 11, 12, 13, 114, 115, 116, 117, 122, 123, 124, 125]), (4, [1, 11, 114, 115, 116, 117]), (2, [0, 1, 59, 60, 61]), (0, [0, 1, 5, 6, 18, 19, 20])]
def ref_SingleCheck_b0 (_ : Nat) (l2 : Int → List TZ01 → Int → Option (Int × Unit)) (vars : Int) (l' : List TZ01) (g0 : Int → Int → Int → Option (Int × Unit)) (steps joins t20 : Int) : Option (Int × Unit) :=
 bif decide (t20 < (l'.length : Int)) then
  bif inb t20 l'.length then
   g0 (IntKind.i64.wrap (steps + ((List.length (l'.getD t20.toNat ([], [], 0, 0, 0, [], ())).2.1) : Int))) (IntKind.i64.wrap (joins + ((List.length (l'.getD t20.toNat ([], [], 0, 0, 0, [], ())).1) : Int))) (IntKind.i64.wrap (t20 + 1))
  else
   none
 else
  bif decide (vars < 1) then
   some ((1, ()))
  else
   bif decide (vars > 6) then
    some ((1, ()))
   else
    bif decide ((l'.length : Int) < 1) then
     some ((1, ()))
    else
     bif decide ((l'.length : Int) > 8) then
      some ((1, ()))
     else
      bif decide (steps > 20) then
       some ((1, ()))
      else
       bif decide (joins > 64) then
        some ((1, ()))
       else
        l2 vars l' 0
def ref_SingleCheck_b2 (nf : Nat) (l4 : List TZ01 → List (List Int) → Int → Option (Int × Unit)) (vars : Int) (l' : List TZ01) (g2 : Int → Option (Int × Unit)) (t61 : Int) : Option (Int × Unit) :=
 bif decide (t61 < (l'.length : Int)) then
  bif inb t61 l'.length then
   bif decide ((l'.getD t61.toNat ([], [], 0, 0, 0, [], ())).2.2.1 < (-1)) then
    some ((3, ()))
   else
    bif ((List.length (l'.getD t61.toNat ([], [], 0, 0, 0, [], ())).2.2.2.2.2.1) : Int) != vars then
     some ((3, ()))
    else
     bif (l'.getD t61.toNat ([], [], 0, 0, 0, [], ())).2.2.1 == (-1) then
      bif (l'.getD t61.toNat ([], [], 0, 0, 0, [], ())).2.2.2.1 != (-1) then
       Option.bind (ref_Inside_f nf ((l'.length : Int)) ([(l'.getD t61.toNat ([], [], 0, 0, 0, [], ())).2.2.2.1])) fun r =>
       bif !r.1 then
        some ((3, ()))
       else
        bif decide ((l'.getD t61.toNat ([], [], 0, 0, 0, [], ())).2.2.1 ≥ 0) then
         Option.bind (ref_Inside_f nf ((l'.length : Int)) ([(l'.getD t61.toNat ([], [], 0, 0, 0, [], ())).2.2.2.1, (l'.getD t61.toNat ([], [], 0, 0, 0, [], ())).2.2.2.2.1])) fun r2 =>
         bif !r2.1 then
          some ((3, ()))
         else
          g2 (IntKind.i64.wrap (t61 + 1))
        else
         g2 (IntKind.i64.wrap (t61 + 1))
      else
       bif decide ((l'.getD t61.toNat ([], [], 0, 0, 0, [], ())).2.2.1 ≥ 0) then
        Option.bind (ref_Inside_f nf ((l'.length : Int)) ([(l'.getD t61.toNat ([], [], 0, 0, 0, [], ())).2.2.2.1, (l'.getD t61.toNat ([], [], 0, 0, 0, [], ())).2.2.2.2.1])) fun r3 =>
        bif !r3.1 then
         some ((3, ()))
        else
         g2 (IntKind.i64.wrap (t61 + 1))
       else
        g2 (IntKind.i64.wrap (t61 + 1))
     else
      bif decide ((l'.getD t61.toNat ([], [], 0, 0, 0, [], ())).2.2.1 ≥ 0) then
       Option.bind (ref_Inside_f nf ((l'.length : Int)) ([(l'.getD t61.toNat ([], [], 0, 0, 0, [], ())).2.2.2.1, (l'.getD t61.toNat ([], [], 0, 0, 0, [], ())).2.2.2.2.1])) fun r4 =>
       bif !r4.1 then
        some ((3, ()))
       else
        g2 (IntKind.i64.wrap (t61 + 1))
      else
       g2 (IntKind.i64.wrap (t61 + 1))
  else
   none
 else
  Option.bind (ref_Bare_f nf l') fun r5 =>
  Option.bind (ref_Nexts_f nf r5.1) fun r6 =>
  Option.bind (ref_Froms_f nf r6.1) fun r7 =>
  l4 l' r7.1 0
def ref_SingleCheck_b4 (_ : Nat) (l6 : List TZ01 → Int → List (List Int) → List TZ21 × TStfn1 × Int × Int × Int × List Int × Unit → Int → Option (Int × Unit)) (l' : List TZ01) (_ : List (List Int) → Int → Option (Int × Unit)) (from' : List (List Int)) (t117 : Int) : Option (Int × Unit) :=
 bif decide (t117 < (l'.length : Int)) then
  bif inb t117 l'.length then
   l6 l' t117 from' (l'.getD t117.toNat ([], [], 0, 0, 0, [], ())) 0
  else
   none
 else
  some ((0, ()))
def ref_SingleCheck_b6 (nf : Nat) (l8 : List TZ01 → Int → List TZ21 × TStfn1 × Int × Int × Int × List Int × Unit → List (List Int) → List TZ21 × TStfn1 × Int × Int × Int × List Int × Unit → Int → Option (Int × Unit)) (l' : List TZ01) (t117 : Int) (_ : List (List Int) → Int → Option (Int × Unit)) (g6 : List (List Int) → List TZ21 × TStfn1 × Int × Int × Int × List Int × Unit → Int → Option (Int × Unit)) (from'2 : List (List Int)) (b : List TZ21 × TStfn1 × Int × Int × Int × List Int × Unit) (t125 : Int) : Option (Int × Unit) :=
 bif decide (t125 < ((List.length (l'.getD t117.toNat ([], [], 0, 0, 0, [], ())).1) : Int)) then
  bif inb t125 (List.length (l'.getD t117.toNat ([], [], 0, 0, 0, [], ())).1) then
   bif inb t117 from'2.length then
    bif ((List.length (List.getD (l'.getD t117.toNat ([], [], 0, 0, 0, [], ())).1 t125.toNat (0, [], ())).2.1) : Int) != ((List.length (from'2.getD t117.toNat [])) : Int) then
     some ((3, ()))
    else
     Option.bind (ref_Inside_f nf 128 ([(List.getD (l'.getD t117.toNat ([], [], 0, 0, 0, [], ())).1 t125.toNat (0, [], ())).1])) fun r8 =>
     bif !r8.1 then
      some ((2, ()))
     else
      Option.bind (ref_Inside_f nf 128 ((List.getD (l'.getD t117.toNat ([], [], 0, 0, 0, [], ())).1 t125.toNat (0, [], ())).2.1)) fun r9 =>
      bif !r9.1 then
       some ((2, ()))
      else
       g6 from'2 b (IntKind.i64.wrap (t125 + 1))
   else
    none
  else
   none
 else
  l8 l' t117 b from'2 b 0
def ref_SingleCheck_b8 (nf : Nat) (_ : List TZ01) (t117 : Int) (b : List TZ21 × TStfn1 × Int × Int × Int × List Int × Unit) (g4 : List (List Int) → Int → Option (Int × Unit)) (g8 : List (List Int) → List TZ21 × TStfn1 × Int × Int × Int × List Int × Unit → Int → Option (Int × Unit)) (from'3 : List (List Int)) (b2 : List TZ21 × TStfn1 × Int × Int × Int × List Int × Unit) (t153 : Int) : Option (Int × Unit) :=
 bif decide (t153 < ((List.length b.2.1) : Int)) then
  bif inb t153 (List.length b.2.1) then
   bif decide ((List.getD b.2.1 t153.toNat (0, 0, 0, 0, 0, ())).1 < 1) then
    some ((6, ()))
   else
    bif decide ((List.getD b.2.1 t153.toNat (0, 0, 0, 0, 0, ())).1 > 6) then
     some ((6, ()))
    else
     bif (List.getD b.2.1 t153.toNat (0, 0, 0, 0, 0, ())).1 == 1 then
      Option.bind (ref_Value_f nf ((List.getD b.2.1 t153.toNat (0, 0, 0, 0, 0, ())).2.2.2.2.1)) fun r10 =>
      bif !r10.1 then
       some ((4, ()))
      else
       Option.bind (ref_Inside_f nf 128 ([(List.getD b.2.1 t153.toNat (0, 0, 0, 0, 0, ())).2.1])) fun r11 =>
       bif !r11.1 then
        some ((2, ()))
       else
        bif (List.getD b.2.1 t153.toNat (0, 0, 0, 0, 0, ())).1 == 2 then
         Option.bind (ref_Inside_f nf 128 ([(List.getD b.2.1 t153.toNat (0, 0, 0, 0, 0, ())).2.2.2.2.1])) fun r12 =>
         bif !r12.1 then
          some ((2, ()))
         else
          bif decide ((List.getD b.2.1 t153.toNat (0, 0, 0, 0, 0, ())).1 ≥ 3) then
           Option.bind (ref_Inside_f nf 128 ([(List.getD b.2.1 t153.toNat (0, 0, 0, 0, 0, ())).2.2.1, (List.getD b.2.1 t153.toNat (0, 0, 0, 0, 0, ())).2.2.2.1])) fun r13 =>
           bif !r13.1 then
            some ((2, ()))
           else
            g8 from'3 b2 (IntKind.i64.wrap (t153 + 1))
          else
           g8 from'3 b2 (IntKind.i64.wrap (t153 + 1))
        else
         bif decide ((List.getD b.2.1 t153.toNat (0, 0, 0, 0, 0, ())).1 ≥ 3) then
          Option.bind (ref_Inside_f nf 128 ([(List.getD b.2.1 t153.toNat (0, 0, 0, 0, 0, ())).2.2.1, (List.getD b.2.1 t153.toNat (0, 0, 0, 0, 0, ())).2.2.2.1])) fun r14 =>
          bif !r14.1 then
           some ((2, ()))
          else
           g8 from'3 b2 (IntKind.i64.wrap (t153 + 1))
         else
          g8 from'3 b2 (IntKind.i64.wrap (t153 + 1))
     else
      Option.bind (ref_Inside_f nf 128 ([(List.getD b.2.1 t153.toNat (0, 0, 0, 0, 0, ())).2.1])) fun r15 =>
      bif !r15.1 then
       some ((2, ()))
      else
       bif (List.getD b.2.1 t153.toNat (0, 0, 0, 0, 0, ())).1 == 2 then
        Option.bind (ref_Inside_f nf 128 ([(List.getD b.2.1 t153.toNat (0, 0, 0, 0, 0, ())).2.2.2.2.1])) fun r16 =>
        bif !r16.1 then
         some ((2, ()))
        else
         bif decide ((List.getD b.2.1 t153.toNat (0, 0, 0, 0, 0, ())).1 ≥ 3) then
          Option.bind (ref_Inside_f nf 128 ([(List.getD b.2.1 t153.toNat (0, 0, 0, 0, 0, ())).2.2.1, (List.getD b.2.1 t153.toNat (0, 0, 0, 0, 0, ())).2.2.2.1])) fun r17 =>
          bif !r17.1 then
           some ((2, ()))
          else
           g8 from'3 b2 (IntKind.i64.wrap (t153 + 1))
         else
          g8 from'3 b2 (IntKind.i64.wrap (t153 + 1))
       else
        bif decide ((List.getD b.2.1 t153.toNat (0, 0, 0, 0, 0, ())).1 ≥ 3) then
         Option.bind (ref_Inside_f nf 128 ([(List.getD b.2.1 t153.toNat (0, 0, 0, 0, 0, ())).2.2.1, (List.getD b.2.1 t153.toNat (0, 0, 0, 0, 0, ())).2.2.2.1])) fun r18 =>
         bif !r18.1 then
          some ((2, ()))
         else
          g8 from'3 b2 (IntKind.i64.wrap (t153 + 1))
        else
         g8 from'3 b2 (IntKind.i64.wrap (t153 + 1))
  else
   none
 else
  bif decide (b2.2.2.1 ≥ 128) then
   some ((2, ()))
  else
   Option.bind (ref_Inside_f nf 128 b2.2.2.2.2.2.1) fun r19 =>
   bif !r19.1 then
    some ((2, ()))
   else
    g4 from'3 (IntKind.i64.wrap (t117 + 1))
def ref_SingleCheck_p (_ : Nat) (l0 : Int → List TZ01 → Int → Int → Int → Option (Int × Unit)) (vars : Int) (l' : List TZ01) : Option (Int × Unit) :=
 l0 vars l' 0 0 0
def ref_SingleCheck_l8 (nf : Nat) (l' : List TZ01) (t117 : Int) (b : List TZ21 × TStfn1 × Int × Int × Int × List Int × Unit) (g4 : List (List Int) → Int → Option (Int × Unit)) : Nat → List (List Int) → List TZ21 × TStfn1 × Int × Int × Int × List Int × Unit → Int → Option (Int × Unit)
 | 0, _, _, _ => none
 | fu + 1, from'3, b2, t153 => ref_SingleCheck_b8 nf l' t117 b g4 (ref_SingleCheck_l8 nf l' t117 b g4 fu) from'3 b2 t153
def ref_SingleCheck_l6 (nf : Nat) (l' : List TZ01) (t117 : Int) (g4 : List (List Int) → Int → Option (Int × Unit)) : Nat → List (List Int) → List TZ21 × TStfn1 × Int × Int × Int × List Int × Unit → Int → Option (Int × Unit)
 | 0, _, _, _ => none
 | fu + 1, from'2, b, t125 => ref_SingleCheck_b6 nf (fun _ _ p2 v0 v1 v2 => ref_SingleCheck_l8 nf l' t117 p2 g4 nf v0 v1 v2) l' t117 g4 (ref_SingleCheck_l6 nf l' t117 g4 fu) from'2 b t125
def ref_SingleCheck_l4 (nf : Nat) (l' : List TZ01) : Nat → List (List Int) → Int → Option (Int × Unit)
 | 0, _, _ => none
 | fu + 1, from', t117 => ref_SingleCheck_b4 nf (fun _ p1 v0 v1 v2 => ref_SingleCheck_l6 nf l' p1 (fun from' t117 => ref_SingleCheck_l4 nf l' fu from' t117) nf v0 v1 v2) l' (ref_SingleCheck_l4 nf l' fu) from' t117
def ref_SingleCheck_l2 (nf : Nat) (vars : Int) (l' : List TZ01) : Nat → Int → Option (Int × Unit)
 | 0, _ => none
 | fu + 1, t61 => ref_SingleCheck_b2 nf (fun _ v0 v1 => ref_SingleCheck_l4 nf l' nf v0 v1) vars l' (ref_SingleCheck_l2 nf vars l' fu) t61
def ref_SingleCheck_l0 (nf : Nat) (vars : Int) (l' : List TZ01) : Nat → Int → Int → Int → Option (Int × Unit)
 | 0, _, _, _ => none
 | fu + 1, steps, joins, t20 => ref_SingleCheck_b0 nf (fun _ _ v0 => ref_SingleCheck_l2 nf vars l' nf v0) vars l' (ref_SingleCheck_l0 nf vars l' fu) steps joins t20
def ref_SingleCheck_f (nf : Nat) (vars : Int) (l' : List TZ01) : Option (Int × Unit) := ref_SingleCheck_p nf (fun p0 p1 v0 v1 v2 => ref_SingleCheck_l0 nf p0 p1 nf v0 v1 v2) vars l'
def q127I (nf b : Nat) (L : LC (Int × Unit)) := LC.F tab (ref_SingleCheck_phi nf) (fun _ F => iter nf F) ref_SingleCheck_keep b L
def q127L0 (nf : Nat) : LC (Int × Unit) := theL (findL tab (ref_SingleCheck_phi nf) (fun _ F => iter nf F) ref_SingleCheck_keep 0 0 (codeOf Try.f18) (fin tab q127R (resL ([]) Try.f18)) (fun _ _ => none) (fin tab q127R (resL ([]) Try.f18)))
def q127m0 (vars : Int) (l' : List TZ01) (steps joins t20 : Int) : St := ⟨fresh, [(0, vI1 vars), (1, AV.v tZ11.sl mR1 l'), (5, vI1 steps), (6, vI1 joins), (18, AV.v tZ11.sl mR1 l'), (19, vI1 (l'.length : Int)), (20, vI1 t20)]⟩
def q127L2 (nf : Nat) : LC (Int × Unit) := theL (findL tab (ref_SingleCheck_phi nf) (fun _ F => iter nf F) ref_SingleCheck_keep 2 0 (codeOf Try.f18) (fin tab q127R (resL ([]) Try.f18)) (fun _ _ => none) (fin tab q127R (resL ([]) Try.f18)))
def q127m2 (vars : Int) (l' : List TZ01) (t61 : Int) : St := ⟨fresh, [(0, vI1 vars), (1, AV.v tZ11.sl mR1 l'), (59, AV.v tZ11.sl mR1 l'), (60, vI1 (l'.length : Int)), (61, vI1 t61)]⟩
def q127L4 (nf : Nat) : LC (Int × Unit) := theL (findL tab (ref_SingleCheck_phi nf) (fun _ F => iter nf F) ref_SingleCheck_keep 4 0 (codeOf Try.f18) (fin tab q127R (resL ([]) Try.f18)) (fun _ _ => none) (fin tab q127R (resL ([]) Try.f18)))
def q127m4 (l' : List TZ01) (from' : List (List Int)) (t117 : Int) : St := ⟨fresh, [(1, AV.v tZ11.sl mR1 l'), (11, AV.ow 500011 iT1.sl.sl (Md.own false mL1) from'), (114, AV.dead), (115, AV.v tZ11.sl mR1 l'), (116, vI1 (l'.length : Int)), (117, vI1 t117)]⟩
def q127L6 (nf : Nat) (G4 : St → Option (Int × Unit)) : LC (Int × Unit) := theL (findL tab (ref_SingleCheck_phi nf) (fun _ F => iter nf F) ref_SingleCheck_keep 6 4 (q127L4 nf).c (fun st => norm (ref_SingleCheck_keep 4) st G4) (q127L4 nf).Kx (q127L4 nf).Kr)
def q127m6 (l' : List TZ01) (t117 : Int) (from'2 : List (List Int)) (b : List TZ21 × TStfn1 × Int × Int × Int × List Int × Unit) (t125 : Int) : St := ⟨fresh, [(1, AV.v tZ11.sl mR1 l'), (11, AV.ow 500011 iT1.sl.sl (Md.own false mL1) from'2), (12, vI1 t117), (13, AV.box 13 500013 tZ11 mR1 b), (114, AV.dead), (115, AV.v tZ11.sl mR1 l'), (116, vI1 (l'.length : Int)), (117, vI1 t117), (122, AV.pl 13 13 [Stp.dr, Stp.fld 0]), (123, AV.v (iT1.pair (iT1.sl.pair Ty.unit)).sl mR1 (l'.getD t117.toNat ([], [], 0, 0, 0, [], ())).1), (124, vI1 ((List.length (l'.getD t117.toNat ([], [], 0, 0, 0, [], ())).1) : Int)), (125, vI1 t125)]⟩
def q127L8 (nf : Nat) (G4 : St → Option (Int × Unit)) : LC (Int × Unit) := theL (findL tab (ref_SingleCheck_phi nf) (fun _ F => iter nf F) ref_SingleCheck_keep 8 4 (q127L4 nf).c (fun st => norm (ref_SingleCheck_keep 4) st G4) (q127L4 nf).Kx (q127L4 nf).Kr)
def q127m8 (l' : List TZ01) (t117 : Int) (b : List TZ21 × TStfn1 × Int × Int × Int × List Int × Unit) (from'3 : List (List Int)) (b2 : List TZ21 × TStfn1 × Int × Int × Int × List Int × Unit) (t153 : Int) : St := ⟨fresh, [(1, AV.v tZ11.sl mR1 l'), (11, AV.ow 500011 iT1.sl.sl (Md.own false mL1) from'3), (13, AV.box 13 500013 tZ11 mR1 b2), (114, AV.dead), (115, AV.v tZ11.sl mR1 l'), (116, vI1 (l'.length : Int)), (117, vI1 t117), (150, AV.pl 13 13 [Stp.dr, Stp.fld 1]), (151, AV.v tI5fn1.sl mR1 b.2.1), (152, vI1 ((List.length b.2.1) : Int)), (153, vI1 t153)]⟩
theorem q127h8 (nf : Nat) (G4 : St → Option (Int × Unit)) (l' : List TZ01) (t117 : Int) (b : List TZ21 × TStfn1 × Int × Int × Int × List Int × Unit) (fu : Nat) (from'3 : List (List Int)) (b2 : List TZ21 × TStfn1 × Int × Int × Int × List Int × Unit) (t153 : Int) : iter (fu + 1) (q127I nf 8 (q127L8 nf G4)) (q127m8 l' t117 b from'3 b2 t153) = ref_SingleCheck_b8 nf l' t117 b (fun from' t117 => G4 (q127m4 l' from' t117)) (fun from'3 b2 t153 => iter fu (q127I nf 8 (q127L8 nf G4)) (q127m8 l' t117 b from'3 b2 t153)) from'3 b2 t153 := by kernel_rfl
theorem q127e8 (nf : Nat) (G4 : St → Option (Int × Unit)) (l' : List TZ01) (t117 : Int) (b : List TZ21 × TStfn1 × Int × Int × Int × List Int × Unit) : ∀ (fu : Nat) (from'3 : List (List Int)) (b2 : List TZ21 × TStfn1 × Int × Int × Int × List Int × Unit) (t153 : Int), iter fu (q127I nf 8 (q127L8 nf G4)) (q127m8 l' t117 b from'3 b2 t153) = ref_SingleCheck_l8 nf l' t117 b (fun from' t117 => G4 (q127m4 l' from' t117)) fu from'3 b2 t153 := by
 intro fu
 induction fu with
 | zero => intros; rfl
 | succ fu ih =>
  intro from'3 b2 t153
  rw [q127h8 nf G4 l' t117 b fu from'3 b2 t153]
  simp only [ih]
  rfl
theorem q127h6 (nf : Nat) (G4 : St → Option (Int × Unit)) (l' : List TZ01) (t117 : Int) (fu : Nat) (from'2 : List (List Int)) (b : List TZ21 × TStfn1 × Int × Int × Int × List Int × Unit) (t125 : Int) : iter (fu + 1) (q127I nf 6 (q127L6 nf G4)) (q127m6 l' t117 from'2 b t125) = ref_SingleCheck_b6 nf (fun _ _ p2 v0 v1 v2 => iter nf (q127I nf 8 (q127L8 nf G4)) (q127m8 l' t117 p2 v0 v1 v2)) l' t117 (fun from' t117 => G4 (q127m4 l' from' t117)) (fun from'2 b t125 => iter fu (q127I nf 6 (q127L6 nf G4)) (q127m6 l' t117 from'2 b t125)) from'2 b t125 := by kernel_rfl
theorem q127e6 (nf : Nat) (G4 : St → Option (Int × Unit)) (l' : List TZ01) (t117 : Int) : ∀ (fu : Nat) (from'2 : List (List Int)) (b : List TZ21 × TStfn1 × Int × Int × Int × List Int × Unit) (t125 : Int), iter fu (q127I nf 6 (q127L6 nf G4)) (q127m6 l' t117 from'2 b t125) = ref_SingleCheck_l6 nf l' t117 (fun from' t117 => G4 (q127m4 l' from' t117)) fu from'2 b t125 := by
 intro fu
 induction fu with
 | zero => intros; rfl
 | succ fu ih =>
  intro from'2 b t125
  rw [q127h6 nf G4 l' t117 fu from'2 b t125]
  simp only [ih, q127e8]
  rfl
theorem q127h4 (nf : Nat) (l' : List TZ01) (fu : Nat) (from' : List (List Int)) (t117 : Int) : iter (fu + 1) (q127I nf 4 (q127L4 nf)) (q127m4 l' from' t117) = ref_SingleCheck_b4 nf (fun _ p1 v0 v1 v2 => iter nf (q127I nf 6 (q127L6 nf (iter fu (q127I nf 4 (q127L4 nf))))) (q127m6 l' p1 v0 v1 v2)) l' (fun from' t117 => iter fu (q127I nf 4 (q127L4 nf)) (q127m4 l' from' t117)) from' t117 := by kernel_rfl
theorem q127e4 (nf : Nat) (l' : List TZ01) : ∀ (fu : Nat) (from' : List (List Int)) (t117 : Int), iter fu (q127I nf 4 (q127L4 nf)) (q127m4 l' from' t117) = ref_SingleCheck_l4 nf l' fu from' t117 := by
 intro fu
 induction fu with
 | zero => intros; rfl
 | succ fu ih =>
  intro from' t117
  rw [q127h4 nf l' fu from' t117]
  simp only [ih, q127e6]
  rfl
theorem q127h2 (nf : Nat) (vars : Int) (l' : List TZ01) (fu : Nat) (t61 : Int) : iter (fu + 1) (q127I nf 2 (q127L2 nf)) (q127m2 vars l' t61) = ref_SingleCheck_b2 nf (fun _ v0 v1 => iter nf (q127I nf 4 (q127L4 nf)) (q127m4 l' v0 v1)) vars l' (fun t61 => iter fu (q127I nf 2 (q127L2 nf)) (q127m2 vars l' t61)) t61 := by kernel_rfl
theorem q127e2 (nf : Nat) (vars : Int) (l' : List TZ01) : ∀ (fu : Nat) (t61 : Int), iter fu (q127I nf 2 (q127L2 nf)) (q127m2 vars l' t61) = ref_SingleCheck_l2 nf vars l' fu t61 := by
 intro fu
 induction fu with
 | zero => intros; rfl
 | succ fu ih =>
  intro t61
  rw [q127h2 nf vars l' fu t61]
  simp only [ih, q127e4]
  rfl
theorem q127h0 (nf : Nat) (vars : Int) (l' : List TZ01) (fu : Nat) (steps joins t20 : Int) : iter (fu + 1) (q127I nf 0 (q127L0 nf)) (q127m0 vars l' steps joins t20) = ref_SingleCheck_b0 nf (fun _ _ v0 => iter nf (q127I nf 2 (q127L2 nf)) (q127m2 vars l' v0)) vars l' (fun steps joins t20 => iter fu (q127I nf 0 (q127L0 nf)) (q127m0 vars l' steps joins t20)) steps joins t20 := by kernel_rfl
theorem q127e0 (nf : Nat) (vars : Int) (l' : List TZ01) : ∀ (fu : Nat) (steps joins t20 : Int), iter fu (q127I nf 0 (q127L0 nf)) (q127m0 vars l' steps joins t20) = ref_SingleCheck_l0 nf vars l' fu steps joins t20 := by
 intro fu
 induction fu with
 | zero => intros; rfl
 | succ fu ih =>
  intro steps joins t20
  rw [q127h0 nf vars l' fu steps joins t20]
  simp only [ih, q127e2]
  rfl
theorem ref_SingleCheck_eq (nf : Nat) (vars : Int) (l' : List TZ01) : runF tab (ref_SingleCheck_phi nf) ref_SingleCheck_keep nf q127P q127R (resL ([]) Try.f18) (codeOf Try.f18) ⟨vars, l', ()⟩ = ref_SingleCheck_f nf vars l' := by
 refine Eq.trans (b := ref_SingleCheck_p nf (fun p0 p1 v0 v1 v2 => iter nf (q127I nf 0 (q127L0 nf)) (q127m0 p0 p1 v0 v1 v2)) vars l') (by kernel_rfl) ?_
 simp only [q127e0]
 rfl
def ref_SingleCheck_F (nf : Nat) (x : denPs q127P) : Option (denL q127R) := ref_SingleCheck_f nf x.1 x.2.1
def ref_SingleCheck_C (nf : Nat) : Contract := ⟨q127P, q127R, ref_SingleCheck_F nf, []⟩
theorem ref_SingleCheck_ok : FnOK Try.prog 18 := ⟨Try.f18, codeOf Try.f18, Try.func18, by kernel_rfl, by kernel_rfl⟩
theorem ref_SingleCheck_holds (nf : Nat) : Contract.Holds Try.prog 18 (ref_SingleCheck_C nf) :=
 fn_holds (Φ := ref_SingleCheck_phi nf) (keep := ref_SingleCheck_keep) (n := nf) ⟨tabs.1, tabs.2, (ctx_cons ref_Inside_ok (ref_Inside_holds nf) (ctx_cons ref_Froms_ok (ref_Froms_holds nf) (ctx_cons ref_Nexts_ok (ref_Nexts_holds nf) (ctx_cons ref_Bare_ok (ref_Bare_holds nf) (ctx_cons ref_Value_ok (ref_Value_holds nf) ctx_nil))))), mixed, bk_ok bkls rfl⟩ (fn := Try.f18) ⟨Try.func18, by kernel_rfl, by kernel_rfl, by kernel_rfl⟩ (fun x => ref_SingleCheck_eq nf x.1 x.2.1)

/-! codemason codemasonref.setsOf -/
abbrev q128P : List PT := [.val (.pair (.sl (.pair (.int .i64) (.pair (.sl (.int .i64)) (.unit)))) (.pair (.sl tI5fn1) (.pair (.int .i64) (.pair (.int .i64) (.pair (.int .i64) (.pair (.sl (.int .i64)) (.unit))))))) (.bor true false), .val (.int .i64) (.bor true false), .val (.int .i64) (.bor true false)]
abbrev q128R : List (Ty × Md) := [(.sl (.int .i64), .own false (.bor false false))]
def ref_setsOf_phi (_ : Nat) : Nat → Option Contract := lookC []
def ref_setsOf_keep : Nat → List Nat := lookK [(2, [0, 1, 2, 3, 7, 10, 24]), (0, [0, 1, 2, 3, 7, 11, 12, 13, 14, 24, 42])]
def ref_setsOf_b0 (_ : Nat) (l2 : List TZ21 × TStfn1 × Int × Int × Int × List Int × Unit → Int → Int → List TZ21 × TStfn1 × Int × Int × Int × List Int × Unit → List Int → Int → Option (List Int × Unit)) (b : List TZ21 × TStfn1 × Int × Int × Int × List Int × Unit) (n' k' : Int) (g0 : List TZ21 × TStfn1 × Int × Int × Int × List Int × Unit → List Int → Int → Option (List Int × Unit)) (b2 : List TZ21 × TStfn1 × Int × Int × Int × List Int × Unit) (l' : List Int) (t14 : Int) : Option (List Int × Unit) :=
 bif decide (t14 < ((List.length b.1) : Int)) then
  bif inb t14 (List.length b.1) then
   bif (List.getD b.1 t14.toNat (0, [], ())).1 == n' then
    bif bimp false ![-1].isEmpty && (l'.length + [-1].length).ble lim then
     g0 b2 (l' ++ [-1]) (IntKind.i64.wrap (t14 + 1))
    else
     none
   else
    g0 b2 l' (IntKind.i64.wrap (t14 + 1))
  else
   none
 else
  l2 b n' k' b2 l' 0
def ref_setsOf_b2 (_ : Nat) (_ : List TZ21 × TStfn1 × Int × Int × Int × List Int × Unit) (n' k' : Int) (g2 : List TZ21 × TStfn1 × Int × Int × Int × List Int × Unit → List Int → Int → Option (List Int × Unit)) (b3 : List TZ21 × TStfn1 × Int × Int × Int × List Int × Unit) (l'2 : List Int) (i : Int) : Option (List Int × Unit) :=
 bif decide (i < k') then
  bif inb i (List.length b3.2.1) then
   bif (List.getD b3.2.1 i.toNat (0, 0, 0, 0, 0, ())).2.1 == n' then
    bif bimp false ![i].isEmpty && (l'2.length + [i].length).ble lim then
     g2 b3 (l'2 ++ [i]) (IntKind.i64.wrap (i + 1))
    else
     none
   else
    g2 b3 l'2 (IntKind.i64.wrap (i + 1))
  else
   none
 else
  some ((l'2, ()))
def ref_setsOf_p (_ : Nat) (l0 : List TZ21 × TStfn1 × Int × Int × Int × List Int × Unit → Int → Int → List TZ21 × TStfn1 × Int × Int × Int × List Int × Unit → List Int → Int → Option (List Int × Unit)) (b : List TZ21 × TStfn1 × Int × Int × Int × List Int × Unit) (n' k' : Int) : Option (List Int × Unit) :=
 l0 b n' k' b [] 0
def ref_setsOf_l2 (nf : Nat) (b : List TZ21 × TStfn1 × Int × Int × Int × List Int × Unit) (n' k' : Int) : Nat → List TZ21 × TStfn1 × Int × Int × Int × List Int × Unit → List Int → Int → Option (List Int × Unit)
 | 0, _, _, _ => none
 | fu + 1, b3, l'2, i => ref_setsOf_b2 nf b n' k' (ref_setsOf_l2 nf b n' k' fu) b3 l'2 i
def ref_setsOf_l0 (nf : Nat) (b : List TZ21 × TStfn1 × Int × Int × Int × List Int × Unit) (n' k' : Int) : Nat → List TZ21 × TStfn1 × Int × Int × Int × List Int × Unit → List Int → Int → Option (List Int × Unit)
 | 0, _, _, _ => none
 | fu + 1, b2, l', t14 => ref_setsOf_b0 nf (fun _ _ _ v0 v1 v2 => ref_setsOf_l2 nf b n' k' nf v0 v1 v2) b n' k' (ref_setsOf_l0 nf b n' k' fu) b2 l' t14
def ref_setsOf_f (nf : Nat) (b : List TZ21 × TStfn1 × Int × Int × Int × List Int × Unit) (n' k' : Int) : Option (List Int × Unit) := ref_setsOf_p nf (fun p0 p1 p2 v0 v1 v2 => ref_setsOf_l0 nf p0 p1 p2 nf v0 v1 v2) b n' k'
def q128I (nf b : Nat) (L : LC (List Int × Unit)) := LC.F tab (ref_setsOf_phi nf) (fun _ F => iter nf F) ref_setsOf_keep b L
def q128L0 (nf : Nat) : LC (List Int × Unit) := theL (findL tab (ref_setsOf_phi nf) (fun _ F => iter nf F) ref_setsOf_keep 0 0 (codeOf Try.f52) (fin tab q128R (resL ([]) Try.f52)) (fun _ _ => none) (fin tab q128R (resL ([]) Try.f52)))
def q128m0 (b : List TZ21 × TStfn1 × Int × Int × Int × List Int × Unit) (n' k' : Int) (b2 : List TZ21 × TStfn1 × Int × Int × Int × List Int × Unit) (l' : List Int) (t14 : Int) : St := ⟨fresh, [(0, AV.v tZ11 mR1 b), (1, vI1 n'), (2, vI1 k'), (3, AV.box 3 500003 tZ11 mR1 b2), (7, AV.ow 500007 iT1.sl (Md.own false mL1) l'), (11, AV.pl 3 3 [Stp.dr, Stp.fld 0]), (12, AV.v (iT1.pair (iT1.sl.pair Ty.unit)).sl mR1 b.1), (13, vI1 ((List.length b.1) : Int)), (14, vI1 t14), (24, AV.dead), (42, AV.dead)]⟩
def q128L2 (nf : Nat) : LC (List Int × Unit) := theL (findL tab (ref_setsOf_phi nf) (fun _ F => iter nf F) ref_setsOf_keep 2 0 (codeOf Try.f52) (fin tab q128R (resL ([]) Try.f52)) (fun _ _ => none) (fin tab q128R (resL ([]) Try.f52)))
def q128m2 (b : List TZ21 × TStfn1 × Int × Int × Int × List Int × Unit) (n' k' : Int) (b3 : List TZ21 × TStfn1 × Int × Int × Int × List Int × Unit) (l'2 : List Int) (i : Int) : St := ⟨fresh, [(0, AV.v tZ11 mR1 b), (1, vI1 n'), (2, vI1 k'), (3, AV.box 3 500003 tZ11 mR1 b3), (7, AV.ow 500007 iT1.sl (Md.own false mL1) l'2), (10, vI1 i), (24, AV.dead)]⟩
theorem q128h2 (nf : Nat) (b : List TZ21 × TStfn1 × Int × Int × Int × List Int × Unit) (n' k' : Int) (fu : Nat) (b3 : List TZ21 × TStfn1 × Int × Int × Int × List Int × Unit) (l'2 : List Int) (i : Int) : iter (fu + 1) (q128I nf 2 (q128L2 nf)) (q128m2 b n' k' b3 l'2 i) = ref_setsOf_b2 nf b n' k' (fun b3 l'2 i => iter fu (q128I nf 2 (q128L2 nf)) (q128m2 b n' k' b3 l'2 i)) b3 l'2 i := by kernel_rfl
theorem q128e2 (nf : Nat) (b : List TZ21 × TStfn1 × Int × Int × Int × List Int × Unit) (n' k' : Int) : ∀ (fu : Nat) (b3 : List TZ21 × TStfn1 × Int × Int × Int × List Int × Unit) (l'2 : List Int) (i : Int), iter fu (q128I nf 2 (q128L2 nf)) (q128m2 b n' k' b3 l'2 i) = ref_setsOf_l2 nf b n' k' fu b3 l'2 i := by
 intro fu
 induction fu with
 | zero => intros; rfl
 | succ fu ih =>
  intro b3 l'2 i
  rw [q128h2 nf b n' k' fu b3 l'2 i]
  simp only [ih]
  rfl
theorem q128h0 (nf : Nat) (b : List TZ21 × TStfn1 × Int × Int × Int × List Int × Unit) (n' k' : Int) (fu : Nat) (b2 : List TZ21 × TStfn1 × Int × Int × Int × List Int × Unit) (l' : List Int) (t14 : Int) : iter (fu + 1) (q128I nf 0 (q128L0 nf)) (q128m0 b n' k' b2 l' t14) = ref_setsOf_b0 nf (fun _ _ _ v0 v1 v2 => iter nf (q128I nf 2 (q128L2 nf)) (q128m2 b n' k' v0 v1 v2)) b n' k' (fun b2 l' t14 => iter fu (q128I nf 0 (q128L0 nf)) (q128m0 b n' k' b2 l' t14)) b2 l' t14 := by kernel_rfl
theorem q128e0 (nf : Nat) (b : List TZ21 × TStfn1 × Int × Int × Int × List Int × Unit) (n' k' : Int) : ∀ (fu : Nat) (b2 : List TZ21 × TStfn1 × Int × Int × Int × List Int × Unit) (l' : List Int) (t14 : Int), iter fu (q128I nf 0 (q128L0 nf)) (q128m0 b n' k' b2 l' t14) = ref_setsOf_l0 nf b n' k' fu b2 l' t14 := by
 intro fu
 induction fu with
 | zero => intros; rfl
 | succ fu ih =>
  intro b2 l' t14
  rw [q128h0 nf b n' k' fu b2 l' t14]
  simp only [ih, q128e2]
  rfl
theorem ref_setsOf_eq (nf : Nat) (b : List TZ21 × TStfn1 × Int × Int × Int × List Int × Unit) (n' k' : Int) : runF tab (ref_setsOf_phi nf) ref_setsOf_keep nf q128P q128R (resL ([]) Try.f52) (codeOf Try.f52) ⟨b, n', k', ()⟩ = ref_setsOf_f nf b n' k' := by
 refine Eq.trans (b := ref_setsOf_p nf (fun p0 p1 p2 v0 v1 v2 => iter nf (q128I nf 0 (q128L0 nf)) (q128m0 p0 p1 p2 v0 v1 v2)) b n' k') (by kernel_rfl) ?_
 simp only [q128e0]
 rfl
def ref_setsOf_F (nf : Nat) (x : denPs q128P) : Option (denL q128R) := ref_setsOf_f nf x.1 x.2.1 x.2.2.1
def ref_setsOf_C (nf : Nat) : Contract := ⟨q128P, q128R, ref_setsOf_F nf, []⟩
theorem ref_setsOf_ok : FnOK Try.prog 52 := ⟨Try.f52, codeOf Try.f52, Try.func52, by kernel_rfl, by kernel_rfl⟩
theorem ref_setsOf_holds (nf : Nat) : Contract.Holds Try.prog 52 (ref_setsOf_C nf) :=
 fn_holds (Φ := ref_setsOf_phi nf) (keep := ref_setsOf_keep) (n := nf) ⟨tabs.1, tabs.2, ctx_nil, mixed, bk_ok bkls rfl⟩ (fn := Try.f52) ⟨Try.func52, by kernel_rfl, by kernel_rfl, by kernel_rfl⟩ (fun x => ref_setsOf_eq nf x.1 x.2.1 x.2.2.1)

/-! codemason codemasonref.Reach -/
abbrev q129P : List PT := [.val (.sl (.sl (.int .i64))) (.bor true false), .val (.int .i64) (.bor true false), .val (.int .i64) (.bor true false)]
abbrev q129R : List (Ty × Md) := [(.sl (.int .i64), .own false (.bor false false))]
def ref_Reach_phi (nf : Nat) : Nat → Option Contract := lookC [(16, ref_Has_C nf)]
def ref_Reach_keep : Nat → List Nat := lookK [(2, [0, 2, 7, 8, 15, 22, 27, 28, 29, 30]), (0, [0, 2, 7, 8, 15])]
def ref_Reach_b0 (_ : Nat) (l2 : List (List Int) → Int → Int → List Int → List Int → Int → Option (List Int × Unit)) (next : List (List Int)) (without : Int) (_ : List Int → Int → Option (List Int × Unit)) (here : List Int) (k' : Int) : Option (List Int × Unit) :=
 bif decide (k' < (here.length : Int)) then
  bif inb k' here.length then
   bif inb (here.getD k'.toNat 0) next.length then
    l2 next without k' here here 0
   else
    none
  else
   none
 else
  some ((here, ()))
def ref_Reach_b2 (nf : Nat) (next : List (List Int)) (without k' : Int) (here : List Int) (g0 g2 : List Int → Int → Option (List Int × Unit)) (here2 : List Int) (t30 : Int) : Option (List Int × Unit) :=
 bif decide (t30 < ((List.length (next.getD (Int.toNat (here.getD k'.toNat 0)) [])) : Int)) then
  bif inb t30 (List.length (next.getD (Int.toNat (here.getD k'.toNat 0)) [])) then
   bif List.getD (next.getD (Int.toNat (here.getD k'.toNat 0)) []) t30.toNat 0 != without then
    Option.bind (ref_Has_f nf here2 (List.getD (next.getD (Int.toNat (here.getD k'.toNat 0)) []) t30.toNat 0)) fun r =>
    bif !r.1 then
     bif bimp false ![List.getD (next.getD (Int.toNat (here.getD k'.toNat 0)) []) t30.toNat 0].isEmpty && (here2.length + [List.getD (next.getD (Int.toNat (here.getD k'.toNat 0)) []) t30.toNat 0].length).ble lim then
      g2 (here2 ++ [List.getD (next.getD (Int.toNat (here.getD k'.toNat 0)) []) t30.toNat 0]) (IntKind.i64.wrap (t30 + 1))
     else
      none
    else
     g2 here2 (IntKind.i64.wrap (t30 + 1))
   else
    g2 here2 (IntKind.i64.wrap (t30 + 1))
  else
   none
 else
  g0 here2 (IntKind.i64.wrap (k' + 1))
def ref_Reach_p (_ : Nat) (l0 : List (List Int) → Int → List Int → Int → Option (List Int × Unit)) (next : List (List Int)) (i without : Int) : Option (List Int × Unit) :=
 bif i == without then
  some (([], ()))
 else
  l0 next without [i] 0
def ref_Reach_l2 (nf : Nat) (next : List (List Int)) (without k' : Int) (here : List Int) (g0 : List Int → Int → Option (List Int × Unit)) : Nat → List Int → Int → Option (List Int × Unit)
 | 0, _, _ => none
 | fu + 1, here2, t30 => ref_Reach_b2 nf next without k' here g0 (ref_Reach_l2 nf next without k' here g0 fu) here2 t30
def ref_Reach_l0 (nf : Nat) (next : List (List Int)) (without : Int) : Nat → List Int → Int → Option (List Int × Unit)
 | 0, _, _ => none
 | fu + 1, here, k' => ref_Reach_b0 nf (fun _ _ p2 p3 v0 v1 => ref_Reach_l2 nf next without p2 p3 (fun here k' => ref_Reach_l0 nf next without fu here k') nf v0 v1) next without (ref_Reach_l0 nf next without fu) here k'
def ref_Reach_f (nf : Nat) (next : List (List Int)) (i without : Int) : Option (List Int × Unit) := ref_Reach_p nf (fun p0 p1 v0 v1 => ref_Reach_l0 nf p0 p1 nf v0 v1) next i without
def q129I (nf b : Nat) (L : LC (List Int × Unit)) := LC.F tab (ref_Reach_phi nf) (fun _ F => iter nf F) ref_Reach_keep b L
def q129L0 (nf : Nat) : LC (List Int × Unit) := theL (findL tab (ref_Reach_phi nf) (fun _ F => iter nf F) ref_Reach_keep 0 0 (codeOf Try.f55) (fin tab q129R (resL ([]) Try.f55)) (fun _ _ => none) (fin tab q129R (resL ([]) Try.f55)))
def q129m0 (next : List (List Int)) (without : Int) (here : List Int) (k' : Int) : St := ⟨fresh, [(0, AV.v iT1.sl.sl mR1 next), (2, vI1 without), (7, AV.ow 500007 iT1.sl (Md.own false mL1) here), (8, vI1 k'), (15, AV.dead)]⟩
def q129L2 (nf : Nat) (G0 : St → Option (List Int × Unit)) : LC (List Int × Unit) := theL (findL tab (ref_Reach_phi nf) (fun _ F => iter nf F) ref_Reach_keep 2 0 (q129L0 nf).c (fun st => norm (ref_Reach_keep 0) st G0) (q129L0 nf).Kx (q129L0 nf).Kr)
def q129m2 (next : List (List Int)) (without k' : Int) (here here2 : List Int) (t30 : Int) : St := ⟨fresh, [(0, AV.v iT1.sl.sl mR1 next), (2, vI1 without), (7, AV.ow 500007 iT1.sl (Md.own false mL1) here2), (8, vI1 k'), (15, AV.dead), (22, AV.v iT1.sl.sl mR1 next), (27, AV.rop iT1.sl mR1 (next.getD (Int.toNat (here.getD k'.toNat 0)) [])), (28, AV.v iT1.sl mR1 (next.getD (Int.toNat (here.getD k'.toNat 0)) [])), (29, vI1 ((List.length (next.getD (Int.toNat (here.getD k'.toNat 0)) [])) : Int)), (30, vI1 t30)]⟩
theorem q129h2 (nf : Nat) (G0 : St → Option (List Int × Unit)) (next : List (List Int)) (without k' : Int) (here : List Int) (fu : Nat) (here2 : List Int) (t30 : Int) : iter (fu + 1) (q129I nf 2 (q129L2 nf G0)) (q129m2 next without k' here here2 t30) = ref_Reach_b2 nf next without k' here (fun here k' => G0 (q129m0 next without here k')) (fun here2 t30 => iter fu (q129I nf 2 (q129L2 nf G0)) (q129m2 next without k' here here2 t30)) here2 t30 := by kernel_rfl
theorem q129e2 (nf : Nat) (G0 : St → Option (List Int × Unit)) (next : List (List Int)) (without k' : Int) (here : List Int) : ∀ (fu : Nat) (here2 : List Int) (t30 : Int), iter fu (q129I nf 2 (q129L2 nf G0)) (q129m2 next without k' here here2 t30) = ref_Reach_l2 nf next without k' here (fun here k' => G0 (q129m0 next without here k')) fu here2 t30 := by
 intro fu
 induction fu with
 | zero => intros; rfl
 | succ fu ih =>
  intro here2 t30
  rw [q129h2 nf G0 next without k' here fu here2 t30]
  simp only [ih]
  rfl
theorem q129h0 (nf : Nat) (next : List (List Int)) (without : Int) (fu : Nat) (here : List Int) (k' : Int) : iter (fu + 1) (q129I nf 0 (q129L0 nf)) (q129m0 next without here k') = ref_Reach_b0 nf (fun _ _ p2 p3 v0 v1 => iter nf (q129I nf 2 (q129L2 nf (iter fu (q129I nf 0 (q129L0 nf))))) (q129m2 next without p2 p3 v0 v1)) next without (fun here k' => iter fu (q129I nf 0 (q129L0 nf)) (q129m0 next without here k')) here k' := by kernel_rfl
theorem q129e0 (nf : Nat) (next : List (List Int)) (without : Int) : ∀ (fu : Nat) (here : List Int) (k' : Int), iter fu (q129I nf 0 (q129L0 nf)) (q129m0 next without here k') = ref_Reach_l0 nf next without fu here k' := by
 intro fu
 induction fu with
 | zero => intros; rfl
 | succ fu ih =>
  intro here k'
  rw [q129h0 nf next without fu here k']
  simp only [ih, q129e2]
  rfl
theorem ref_Reach_eq (nf : Nat) (next : List (List Int)) (i without : Int) : runF tab (ref_Reach_phi nf) ref_Reach_keep nf q129P q129R (resL ([]) Try.f55) (codeOf Try.f55) ⟨next, i, without, ()⟩ = ref_Reach_f nf next i without := by
 refine Eq.trans (b := ref_Reach_p nf (fun p0 p1 v0 v1 => iter nf (q129I nf 0 (q129L0 nf)) (q129m0 p0 p1 v0 v1)) next i without) (by kernel_rfl) ?_
 simp only [q129e0]
 rfl
def ref_Reach_F (nf : Nat) (x : denPs q129P) : Option (denL q129R) := ref_Reach_f nf x.1 x.2.1 x.2.2.1
def ref_Reach_C (nf : Nat) : Contract := ⟨q129P, q129R, ref_Reach_F nf, []⟩
theorem ref_Reach_ok : FnOK Try.prog 55 := ⟨Try.f55, codeOf Try.f55, Try.func55, by kernel_rfl, by kernel_rfl⟩
theorem ref_Reach_holds (nf : Nat) : Contract.Holds Try.prog 55 (ref_Reach_C nf) :=
 fn_holds (Φ := ref_Reach_phi nf) (keep := ref_Reach_keep) (n := nf) ⟨tabs.1, tabs.2, (ctx_cons ref_Has_ok (ref_Has_holds nf) ctx_nil), mixed, bk_ok bkls rfl⟩ (fn := Try.f55) ⟨Try.func55, by kernel_rfl, by kernel_rfl, by kernel_rfl⟩ (fun x => ref_Reach_eq nf x.1 x.2.1 x.2.2.1)

/-! codemason codemasonref.Rules -/
abbrev q130P : List PT := [.val (.sl (.sl (.int .i64))) (.bor true false), .val (.int .i64) (.bor true false), .val (.int .i64) (.bor true false)]
abbrev q130R : List (Ty × Md) := [(.bool, .bor false true)]
def ref_Rules_phi (nf : Nat) : Nat → Option Contract := lookC [(16, ref_Has_C nf), (55, ref_Reach_C nf)]
def ref_Rules_keep : Nat → List Nat := lookK []
def ref_Rules_p (nf : Nat) (next : List (List Int)) (i j : Int) : Option (Bool × Unit) :=
 Option.bind (ref_Reach_f nf next 0 (-1)) fun r =>
 Option.bind (ref_Has_f nf r.1 i) fun r2 =>
 bif r2.1 then
  Option.bind (ref_Reach_f nf next 0 (-1)) fun r3 =>
  Option.bind (ref_Has_f nf r3.1 j) fun r4 =>
  bif r4.1 then
   bif i == j then
    some ((true, ()))
   else
    Option.bind (ref_Reach_f nf next 0 i) fun r5 =>
    Option.bind (ref_Has_f nf r5.1 j) fun r6 =>
    some ((!r6.1, ()))
  else
   some ((false, ()))
 else
  some ((false, ()))
def ref_Rules_f (nf : Nat) (next : List (List Int)) (i j : Int) : Option (Bool × Unit) := ref_Rules_p nf next i j
theorem ref_Rules_eq (nf : Nat) (next : List (List Int)) (i j : Int) : runF tab (ref_Rules_phi nf) ref_Rules_keep nf q130P q130R (resL ([]) Try.f54) (codeOf Try.f54) ⟨next, i, j, ()⟩ = ref_Rules_f nf next i j := by kernel_rfl
def ref_Rules_F (nf : Nat) (x : denPs q130P) : Option (denL q130R) := ref_Rules_f nf x.1 x.2.1 x.2.2.1
def ref_Rules_C (nf : Nat) : Contract := ⟨q130P, q130R, ref_Rules_F nf, []⟩
theorem ref_Rules_ok : FnOK Try.prog 54 := ⟨Try.f54, codeOf Try.f54, Try.func54, by kernel_rfl, by kernel_rfl⟩
theorem ref_Rules_holds (nf : Nat) : Contract.Holds Try.prog 54 (ref_Rules_C nf) :=
 fn_holds (Φ := ref_Rules_phi nf) (keep := ref_Rules_keep) (n := nf) ⟨tabs.1, tabs.2, (ctx_cons ref_Has_ok (ref_Has_holds nf) (ctx_cons ref_Reach_ok (ref_Reach_holds nf) ctx_nil)), mixed, bk_ok bkls rfl⟩ (fn := Try.f54) ⟨Try.func54, by kernel_rfl, by kernel_rfl, by kernel_rfl⟩ (fun x => ref_Rules_eq nf x.1 x.2.1 x.2.2.1)

/-! codemason codemasonref.OnceSet 1 -/
abbrev q131P : List PT := [.val (.int .i64) (.bor true false), .val (.int .i64) (.bor true false), .val (.int .i64) (.bor true false), .ptr (.int .i64) (.bor true false), .ptr (.sl (.pair (.sl (.pair (.int .i64) (.pair (.sl (.int .i64)) (.unit)))) (.pair (.sl tI5fn1) (.pair (.int .i64) (.pair (.int .i64) (.pair (.int .i64) (.pair (.sl (.int .i64)) (.unit)))))))) (.bor true false), .ptr (.sl (.sl (.int .i64))) (.bor true false)]
abbrev q131R : List (Ty × Md) := [(.bool, .bor false true)]
def ref_OnceSet_1_phi (nf : Nat) : Nat → Option Contract := lookC [(52, ref_setsOf_C nf), (54, ref_Rules_C nf)]
def ref_OnceSet_1_keep : Nat → List Nat := lookK [(0, [0, 1, 4, 5, 10])]
def ref_OnceSet_1_b0 (nf : Nat) (n' i : Int) (c4 : List TZ01) (c5 : List (List Int)) (g0 : Int → Option (Bool × Unit)) (j : Int) : Option (Bool × Unit) :=
 bif decide (j < (c4.length : Int)) then
  bif j != i then
   Option.bind (ref_Rules_f nf c5 j i) fun r2 =>
   bif r2.1 then
    bif inb j c4.length then
     bif inb j c4.length then
      Option.bind (ref_setsOf_f nf (c4.getD j.toNat ([], [], 0, 0, 0, [], ())) n' (((List.length (c4.getD j.toNat ([], [], 0, 0, 0, [], ())).2.1) : Int))) fun r3 =>
      bif decide (((List.length r3.1) : Int) > 0) then
       some ((true, ()))
      else
       g0 (IntKind.i64.wrap (j + 1))
     else
      none
    else
     none
   else
    g0 (IntKind.i64.wrap (j + 1))
  else
   g0 (IntKind.i64.wrap (j + 1))
 else
  some ((false, ()))
def ref_OnceSet_1_p (nf : Nat) (l0 : Int → Int → List TZ01 → List (List Int) → Int → Option (Bool × Unit)) (n' i k' c3 : Int) (c4 : List TZ01) (c5 : List (List Int)) : Option (Bool × Unit) :=
 bif decide (n' < c3) then
  some ((true, ()))
 else
  bif decide (i < 0) then
   some ((false, ()))
  else
   bif inb i c4.length then
    Option.bind (ref_setsOf_f nf (c4.getD i.toNat ([], [], 0, 0, 0, [], ())) n' k') fun r =>
    bif decide (((List.length r.1) : Int) > 0) then
     some ((true, ()))
    else
     l0 n' i c4 c5 0
   else
    none
def ref_OnceSet_1_l0 (nf : Nat) (n' i : Int) (c4 : List TZ01) (c5 : List (List Int)) : Nat → Int → Option (Bool × Unit)
 | 0, _ => none
 | fu + 1, j => ref_OnceSet_1_b0 nf n' i c4 c5 (ref_OnceSet_1_l0 nf n' i c4 c5 fu) j
def ref_OnceSet_1_f (nf : Nat) (n' i k' c3 : Int) (c4 : List TZ01) (c5 : List (List Int)) : Option (Bool × Unit) := ref_OnceSet_1_p nf (fun p0 p1 p2 p3 v0 => ref_OnceSet_1_l0 nf p0 p1 p2 p3 nf v0) n' i k' c3 c4 c5
def q131I (nf b : Nat) (L : LC (Bool × Unit)) := LC.F tab (ref_OnceSet_1_phi nf) (fun _ F => iter nf F) ref_OnceSet_1_keep b L
def q131L0 (nf : Nat) : LC (Bool × Unit) := theL (findL tab (ref_OnceSet_1_phi nf) (fun _ F => iter nf F) ref_OnceSet_1_keep 0 0 (codeOf Try.f53) (fin tab q131R (resL ([]) Try.f53)) (fun _ _ => none) (fin tab q131R (resL ([]) Try.f53)))
def q131m0 (n' i : Int) (c4 : List TZ01) (c5 : List (List Int)) (j : Int) : St := ⟨fresh, [(0, vI1 n'), (1, vI1 i), (4, AV.rop tZ11.sl mR1 c4), (5, AV.rop iT1.sl.sl mR1 c5), (10, vI1 j)]⟩
theorem q131h0 (nf : Nat) (n' i : Int) (c4 : List TZ01) (c5 : List (List Int)) (fu : Nat) (j : Int) : iter (fu + 1) (q131I nf 0 (q131L0 nf)) (q131m0 n' i c4 c5 j) = ref_OnceSet_1_b0 nf n' i c4 c5 (fun j => iter fu (q131I nf 0 (q131L0 nf)) (q131m0 n' i c4 c5 j)) j := by kernel_rfl
theorem q131e0 (nf : Nat) (n' i : Int) (c4 : List TZ01) (c5 : List (List Int)) : ∀ (fu : Nat) (j : Int), iter fu (q131I nf 0 (q131L0 nf)) (q131m0 n' i c4 c5 j) = ref_OnceSet_1_l0 nf n' i c4 c5 fu j := by
 intro fu
 induction fu with
 | zero => intros; rfl
 | succ fu ih =>
  intro j
  rw [q131h0 nf n' i c4 c5 fu j]
  simp only [ih]
  rfl
theorem ref_OnceSet_1_eq (nf : Nat) (n' i k' c3 : Int) (c4 : List TZ01) (c5 : List (List Int)) : runF tab (ref_OnceSet_1_phi nf) ref_OnceSet_1_keep nf q131P q131R (resL ([]) Try.f53) (codeOf Try.f53) ⟨n', i, k', c3, c4, c5, ()⟩ = ref_OnceSet_1_f nf n' i k' c3 c4 c5 := by
 refine Eq.trans (b := ref_OnceSet_1_p nf (fun p0 p1 p2 p3 v0 => iter nf (q131I nf 0 (q131L0 nf)) (q131m0 p0 p1 p2 p3 v0)) n' i k' c3 c4 c5) (by kernel_rfl) ?_
 simp only [q131e0]
 rfl
def ref_OnceSet_1_F (nf : Nat) (x : denPs q131P) : Option (denL q131R) := ref_OnceSet_1_f nf x.1 x.2.1 x.2.2.1 x.2.2.2.1 x.2.2.2.2.1 x.2.2.2.2.2.1
def ref_OnceSet_1_C (nf : Nat) : Contract := ⟨q131P, q131R, ref_OnceSet_1_F nf, []⟩
theorem ref_OnceSet_1_ok : FnOK Try.prog 53 := ⟨Try.f53, codeOf Try.f53, Try.func53, by kernel_rfl, by kernel_rfl⟩
theorem ref_OnceSet_1_holds (nf : Nat) : Contract.Holds Try.prog 53 (ref_OnceSet_1_C nf) :=
 fn_holds (Φ := ref_OnceSet_1_phi nf) (keep := ref_OnceSet_1_keep) (n := nf) ⟨tabs.1, tabs.2, (ctx_cons ref_setsOf_ok (ref_setsOf_holds nf) (ctx_cons ref_Rules_ok (ref_Rules_holds nf) ctx_nil)), mixed, bk_ok bkls rfl⟩ (fn := Try.f53) ⟨Try.func53, by kernel_rfl, by kernel_rfl, by kernel_rfl⟩ (fun x => ref_OnceSet_1_eq nf x.1 x.2.1 x.2.2.1 x.2.2.2.1 x.2.2.2.2.1 x.2.2.2.2.2.1)

/-! codemason codemasonref.OnceSet -/
abbrev q132P : List PT := [.val (.int .i64) (.bor true false), .val (.sl (.pair (.sl (.pair (.int .i64) (.pair (.sl (.int .i64)) (.unit)))) (.pair (.sl tI5fn1) (.pair (.int .i64) (.pair (.int .i64) (.pair (.int .i64) (.pair (.sl (.int .i64)) (.unit)))))))) (.bor true false)]
abbrev q132R : List (Ty × Md) := [(.bool, .bor false true)]
def ref_OnceSet_phi (nf : Nat) : Nat → Option Contract := lookC [(16, ref_Has_C nf), (48, ref_Froms_C nf), (49, ref_Nexts_C nf), (50, ref_Bare_C nf), (52, ref_setsOf_C nf), (53, ref_OnceSet_1_C nf), (55, ref_Reach_C nf)]
def ref_OnceSet_keep : Nat → List Nat := lookK [(12, [1, 2, 3, 5, 6, 10, 12, 13, 28, 59, 61, 62, 63, 176, 177, 178, 179]), (10, [1, 2, 3, 5, 6, 10, 12, 13, 28, 59, 61, 62, 63, 118, 119, 120, 121]), (8, [1, 2, 3, 5, 6, 10, 12, 13, 15, 28, 59, 61, 62, 63, 71, 72, 73, 74, 78, 79, 80, 81]), (6, [1, 2, 3, 5, 6, 10, 12, 13, 28, 59, 61, 62, 63, 71, 72, 73, 74]), (4, [1, 2, 3, 5, 6, 10, 28, 59, 61, 62, 63]), (2, [1, 2, 3, 5, 6, 7, 8, 9, 28]), (0, [1, 2, 3, 5, 6, 7, 28])]
def ref_OnceSet_b0 (nf : Nat) (l2 : List TZ01 → Int → Int → List TZ01 → List (List Int) → List (List Int) → Int → Int → Option (Bool × Unit)) (l4 : List TZ01 → List Int × Unit → Int → List TZ01 → List (List Int) → List (List Int) → List Int → Int → Option (Bool × Unit)) (l' : List TZ01) (_ : Int → List TZ01 → List (List Int) → List (List Int) → Int → Option (Bool × Unit)) (vars2 : Int) (l'2 : List TZ01) (next from' : List (List Int)) (n' : Int) : Option (Bool × Unit) :=
 bif decide (n' < 128) then
  bif decide (n' < vars2) then
   l2 l' n' vars2 l'2 next from' 1 0
  else
   l2 l' n' vars2 l'2 next from' 0 0
 else
  Option.bind (ref_Reach_f nf next 0 (-1)) fun r5 =>
  l4 l' r5 vars2 l'2 next from' r5.1 0
def ref_OnceSet_b2 (nf : Nat) (_ : List TZ01) (n' : Int) (g0 : Int → List TZ01 → List (List Int) → List (List Int) → Int → Option (Bool × Unit)) (g2 : Int → List TZ01 → List (List Int) → List (List Int) → Int → Int → Option (Bool × Unit)) (vars3 : Int) (l'3 : List TZ01) (next2 from'2 : List (List Int)) (many i : Int) : Option (Bool × Unit) :=
 bif decide (i < (l'3.length : Int)) then
  bif inb i l'3.length then
   bif inb i l'3.length then
    Option.bind (ref_setsOf_f nf (l'3.getD i.toNat ([], [], 0, 0, 0, [], ())) n' (((List.length (l'3.getD i.toNat ([], [], 0, 0, 0, [], ())).2.1) : Int))) fun r4 =>
    g2 vars3 l'3 next2 from'2 (IntKind.i64.wrap (many + ((List.length r4.1) : Int))) (IntKind.i64.wrap (i + 1))
   else
    none
  else
   none
 else
  bif decide (many > 1) then
   some ((false, ()))
  else
   g0 vars3 l'3 next2 from'2 (IntKind.i64.wrap (n' + 1))
def ref_OnceSet_b4 (_ : Nat) (l6 : List TZ01 → List Int → Int → List Int × Unit → List TZ01 → Int → List TZ01 → List (List Int) → List (List Int) → List TZ21 × TStfn1 × Int × Int × Int × List Int × Unit → List Int → Int → Option (Bool × Unit)) (l' : List TZ01) (r5 : List Int × Unit) (_ : Int → List TZ01 → List (List Int) → List (List Int) → List Int → Int → Option (Bool × Unit)) (vars4 : Int) (l'4 : List TZ01) (next3 from'3 : List (List Int)) (t61 : List Int) (t63 : Int) : Option (Bool × Unit) :=
 bif decide (t63 < ((List.length r5.1) : Int)) then
  bif inb t63 t61.length then
   bif inb (t61.getD t63.toNat 0) l'4.length then
    l6 l' t61 t63 r5 l'4 vars4 l'4 next3 from'3 (l'4.getD (Int.toNat (t61.getD t63.toNat 0)) ([], [], 0, 0, 0, [], ())) t61 0
   else
    none
  else
   none
 else
  some ((true, ()))
def ref_OnceSet_b6 (_ : Nat) (l8 : List TZ01 → List Int → Int → List Int × Unit → List TZ01 → Int → Int → List TZ01 → List (List Int) → List (List Int) → List TZ21 × TStfn1 × Int × Int × Int × List Int × Unit → Int × List Int × Unit → List Int → Int → Option (Bool × Unit)) (l10 : List TZ01 → List Int → Int → List Int × Unit → List TZ21 × TStfn1 × Int × Int × Int × List Int × Unit → Int → List TZ01 → List (List Int) → List (List Int) → List TZ21 × TStfn1 × Int × Int × Int × List Int × Unit → List Int → Int → Option (Bool × Unit)) (l' : List TZ01) (t61 : List Int) (t63 : Int) (r5 : List Int × Unit) (l'4 : List TZ01) (_ : Int → List TZ01 → List (List Int) → List (List Int) → List Int → Int → Option (Bool × Unit)) (_ : Int → List TZ01 → List (List Int) → List (List Int) → List TZ21 × TStfn1 × Int × Int × Int × List Int × Unit → List Int → Int → Option (Bool × Unit)) (vars5 : Int) (l'5 : List TZ01) (next4 from'4 : List (List Int)) (b : List TZ21 × TStfn1 × Int × Int × Int × List Int × Unit) (t612 : List Int) (t74 : Int) : Option (Bool × Unit) :=
 bif decide (t74 < ((List.length (l'4.getD (Int.toNat (t61.getD t63.toNat 0)) ([], [], 0, 0, 0, [], ())).1) : Int)) then
  bif inb t74 (List.length (l'4.getD (Int.toNat (t61.getD t63.toNat 0)) ([], [], 0, 0, 0, [], ())).1) then
   l8 l' t61 t63 r5 l'4 t74 vars5 l'5 next4 from'4 b (List.getD (l'4.getD (Int.toNat (t61.getD t63.toNat 0)) ([], [], 0, 0, 0, [], ())).1 t74.toNat (0, [], ())) t612 0
  else
   none
 else
  l10 l' t61 t63 r5 b vars5 l'5 next4 from'4 b t612 0
def ref_OnceSet_b8 (nf : Nat) (_ : List TZ01) (t61 : List Int) (t63 : Int) (_ : List Int × Unit) (l'4 : List TZ01) (t74 : Int) (g6 : Int → List TZ01 → List (List Int) → List (List Int) → List TZ21 × TStfn1 × Int × Int × Int × List Int × Unit → List Int → Int → Option (Bool × Unit)) (_ : Int → List TZ01 → List (List Int) → List (List Int) → List Int → Int → Option (Bool × Unit)) (g8 : Int → List TZ01 → List (List Int) → List (List Int) → List TZ21 × TStfn1 × Int × Int × Int × List Int × Unit → Int × List Int × Unit → List Int → Int → Option (Bool × Unit)) (vars6 : Int) (l'6 : List TZ01) (next5 from'5 : List (List Int)) (b2 : List TZ21 × TStfn1 × Int × Int × Int × List Int × Unit) (j : Int × List Int × Unit) (t613 : List Int) (t81 : Int) : Option (Bool × Unit) :=
 bif decide (t81 < ((List.length (List.getD (l'4.getD (Int.toNat (t61.getD t63.toNat 0)) ([], [], 0, 0, 0, [], ())).1 t74.toNat (0, [], ())).2.1) : Int)) then
  bif inb t81 (List.length (List.getD (l'4.getD (Int.toNat (t61.getD t63.toNat 0)) ([], [], 0, 0, 0, [], ())).1 t74.toNat (0, [], ())).2.1) then
   bif inb (t61.getD t63.toNat 0) from'5.length then
    bif inb t81 (List.length (from'5.getD (Int.toNat (t61.getD t63.toNat 0)) [])) then
     bif decide (List.getD (from'5.getD (Int.toNat (t61.getD t63.toNat 0)) []) t81.toNat 0 ≥ 0) then
      Option.bind (ref_Reach_f nf next5 0 (-1)) fun r6 =>
      Option.bind (ref_Has_f nf r6.1 (List.getD (from'5.getD (Int.toNat (t61.getD t63.toNat 0)) []) t81.toNat 0)) fun r7 =>
      bif !r7.1 then
       g8 vars6 l'6 next5 from'5 b2 j t613 (IntKind.i64.wrap (t81 + 1))
      else
       bif decide (List.getD (from'5.getD (Int.toNat (t61.getD t63.toNat 0)) []) t81.toNat 0 ≥ 0) then
        bif inb (List.getD (from'5.getD (Int.toNat (t61.getD t63.toNat 0)) []) t81.toNat 0) l'6.length then
         Option.bind (ref_OnceSet_1_f nf (List.getD (List.getD (l'4.getD (Int.toNat (t61.getD t63.toNat 0)) ([], [], 0, 0, 0, [], ())).1 t74.toNat (0, [], ())).2.1 t81.toNat 0) (List.getD (from'5.getD (Int.toNat (t61.getD t63.toNat 0)) []) t81.toNat 0) (((List.length (l'6.getD (Int.toNat (List.getD (from'5.getD (Int.toNat (t61.getD t63.toNat 0)) []) t81.toNat 0)) ([], [], 0, 0, 0, [], ())).2.1) : Int)) vars6 l'6 next5) fun r8 =>
         bif !r8.1 then
          some ((false, ()))
         else
          g8 vars6 l'6 next5 from'5 b2 j t613 (IntKind.i64.wrap (t81 + 1))
        else
         none
       else
        Option.bind (ref_OnceSet_1_f nf (List.getD (List.getD (l'4.getD (Int.toNat (t61.getD t63.toNat 0)) ([], [], 0, 0, 0, [], ())).1 t74.toNat (0, [], ())).2.1 t81.toNat 0) (List.getD (from'5.getD (Int.toNat (t61.getD t63.toNat 0)) []) t81.toNat 0) 0 vars6 l'6 next5) fun r9 =>
        bif !r9.1 then
         some ((false, ()))
        else
         g8 vars6 l'6 next5 from'5 b2 j t613 (IntKind.i64.wrap (t81 + 1))
     else
      bif decide (List.getD (from'5.getD (Int.toNat (t61.getD t63.toNat 0)) []) t81.toNat 0 ≥ 0) then
       bif inb (List.getD (from'5.getD (Int.toNat (t61.getD t63.toNat 0)) []) t81.toNat 0) l'6.length then
        Option.bind (ref_OnceSet_1_f nf (List.getD (List.getD (l'4.getD (Int.toNat (t61.getD t63.toNat 0)) ([], [], 0, 0, 0, [], ())).1 t74.toNat (0, [], ())).2.1 t81.toNat 0) (List.getD (from'5.getD (Int.toNat (t61.getD t63.toNat 0)) []) t81.toNat 0) (((List.length (l'6.getD (Int.toNat (List.getD (from'5.getD (Int.toNat (t61.getD t63.toNat 0)) []) t81.toNat 0)) ([], [], 0, 0, 0, [], ())).2.1) : Int)) vars6 l'6 next5) fun r10 =>
        bif !r10.1 then
         some ((false, ()))
        else
         g8 vars6 l'6 next5 from'5 b2 j t613 (IntKind.i64.wrap (t81 + 1))
       else
        none
      else
       Option.bind (ref_OnceSet_1_f nf (List.getD (List.getD (l'4.getD (Int.toNat (t61.getD t63.toNat 0)) ([], [], 0, 0, 0, [], ())).1 t74.toNat (0, [], ())).2.1 t81.toNat 0) (List.getD (from'5.getD (Int.toNat (t61.getD t63.toNat 0)) []) t81.toNat 0) 0 vars6 l'6 next5) fun r11 =>
       bif !r11.1 then
        some ((false, ()))
       else
        g8 vars6 l'6 next5 from'5 b2 j t613 (IntKind.i64.wrap (t81 + 1))
    else
     none
   else
    none
  else
   none
 else
  g6 vars6 l'6 next5 from'5 b2 t613 (IntKind.i64.wrap (t74 + 1))
def ref_OnceSet_b10 (nf : Nat) (l12 : List TZ01 → List Int → Int → List Int × Unit → List TZ21 × TStfn1 × Int × Int × Int × List Int × Unit → Int → List TZ01 → List (List Int) → List (List Int) → List TZ21 × TStfn1 × Int × Int × Int × List Int × Unit → List Int → Int → Option (Bool × Unit)) (l' : List TZ01) (t61 : List Int) (t63 : Int) (r5 : List Int × Unit) (b : List TZ21 × TStfn1 × Int × Int × Int × List Int × Unit) (_ : Int → List TZ01 → List (List Int) → List (List Int) → List Int → Int → Option (Bool × Unit)) (g10 : Int → List TZ01 → List (List Int) → List (List Int) → List TZ21 × TStfn1 × Int × Int × Int × List Int × Unit → List Int → Int → Option (Bool × Unit)) (vars7 : Int) (l'7 : List TZ01) (next6 from'6 : List (List Int)) (b3 : List TZ21 × TStfn1 × Int × Int × Int × List Int × Unit) (t614 : List Int) (t121 : Int) : Option (Bool × Unit) :=
 bif decide (t121 < ((List.length b.2.1) : Int)) then
  bif inb t121 (List.length b.2.1) then
   bif (List.getD b.2.1 t121.toNat (0, 0, 0, 0, 0, ())).1 == 2 then
    Option.bind (ref_OnceSet_1_f nf ((List.getD b.2.1 t121.toNat (0, 0, 0, 0, 0, ())).2.2.2.2.1) (t61.getD t63.toNat 0) t121 vars7 l'7 next6) fun r12 =>
    bif !r12.1 then
     some ((false, ()))
    else
     bif decide ((List.getD b.2.1 t121.toNat (0, 0, 0, 0, 0, ())).1 ≥ 3) then
      Option.bind (ref_OnceSet_1_f nf ((List.getD b.2.1 t121.toNat (0, 0, 0, 0, 0, ())).2.2.1) (t61.getD t63.toNat 0) t121 vars7 l'7 next6) fun r13 =>
      bif !r13.1 then
       some ((false, ()))
      else
       Option.bind (ref_OnceSet_1_f nf ((List.getD b.2.1 t121.toNat (0, 0, 0, 0, 0, ())).2.2.2.1) (t61.getD t63.toNat 0) t121 vars7 l'7 next6) fun r14 =>
       bif !r14.1 then
        some ((false, ()))
       else
        g10 vars7 l'7 next6 from'6 b3 t614 (IntKind.i64.wrap (t121 + 1))
     else
      g10 vars7 l'7 next6 from'6 b3 t614 (IntKind.i64.wrap (t121 + 1))
   else
    bif decide ((List.getD b.2.1 t121.toNat (0, 0, 0, 0, 0, ())).1 ≥ 3) then
     Option.bind (ref_OnceSet_1_f nf ((List.getD b.2.1 t121.toNat (0, 0, 0, 0, 0, ())).2.2.1) (t61.getD t63.toNat 0) t121 vars7 l'7 next6) fun r15 =>
     bif !r15.1 then
      some ((false, ()))
     else
      Option.bind (ref_OnceSet_1_f nf ((List.getD b.2.1 t121.toNat (0, 0, 0, 0, 0, ())).2.2.2.1) (t61.getD t63.toNat 0) t121 vars7 l'7 next6) fun r16 =>
      bif !r16.1 then
       some ((false, ()))
      else
       g10 vars7 l'7 next6 from'6 b3 t614 (IntKind.i64.wrap (t121 + 1))
    else
     g10 vars7 l'7 next6 from'6 b3 t614 (IntKind.i64.wrap (t121 + 1))
  else
   none
 else
  bif decide (b3.2.2.1 ≥ 0) then
   Option.bind (ref_OnceSet_1_f nf b3.2.2.1 (t61.getD t63.toNat 0) (((List.length b3.2.1) : Int)) vars7 l'7 next6) fun r17 =>
   bif !r17.1 then
    some ((false, ()))
   else
    l12 l' t61 t63 r5 b3 vars7 l'7 next6 from'6 b3 t614 0
  else
   l12 l' t61 t63 r5 b3 vars7 l'7 next6 from'6 b3 t614 0
def ref_OnceSet_b12 (nf : Nat) (_ : List TZ01) (t61 : List Int) (t63 : Int) (_ : List Int × Unit) (b3 : List TZ21 × TStfn1 × Int × Int × Int × List Int × Unit) (g4 : Int → List TZ01 → List (List Int) → List (List Int) → List Int → Int → Option (Bool × Unit)) (g12 : Int → List TZ01 → List (List Int) → List (List Int) → List TZ21 × TStfn1 × Int × Int × Int × List Int × Unit → List Int → Int → Option (Bool × Unit)) (vars8 : Int) (l'8 : List TZ01) (next7 from'7 : List (List Int)) (b4 : List TZ21 × TStfn1 × Int × Int × Int × List Int × Unit) (t615 : List Int) (t179 : Int) : Option (Bool × Unit) :=
 bif decide (t179 < ((List.length b3.2.2.2.2.2.1) : Int)) then
  bif inb t179 (List.length b3.2.2.2.2.2.1) then
   Option.bind (ref_OnceSet_1_f nf (List.getD b3.2.2.2.2.2.1 t179.toNat 0) (t61.getD t63.toNat 0) (((List.length b4.2.1) : Int)) vars8 l'8 next7) fun r18 =>
   bif !r18.1 then
    some ((false, ()))
   else
    g12 vars8 l'8 next7 from'7 b4 t615 (IntKind.i64.wrap (t179 + 1))
  else
   none
 else
  g4 vars8 l'8 next7 from'7 t615 (IntKind.i64.wrap (t63 + 1))
def ref_OnceSet_p (nf : Nat) (l0 : List TZ01 → Int → List TZ01 → List (List Int) → List (List Int) → Int → Option (Bool × Unit)) (vars : Int) (l' : List TZ01) : Option (Bool × Unit) :=
 Option.bind (ref_Bare_f nf l') fun r =>
 Option.bind (ref_Nexts_f nf r.1) fun r2 =>
 Option.bind (ref_Froms_f nf r2.1) fun r3 =>
 l0 l' vars l' r2.1 r3.1 0
def ref_OnceSet_l12 (nf : Nat) (l' : List TZ01) (t61 : List Int) (t63 : Int) (r5 : List Int × Unit) (b3 : List TZ21 × TStfn1 × Int × Int × Int × List Int × Unit) (g4 : Int → List TZ01 → List (List Int) → List (List Int) → List Int → Int → Option (Bool × Unit)) : Nat → Int → List TZ01 → List (List Int) → List (List Int) → List TZ21 × TStfn1 × Int × Int × Int × List Int × Unit → List Int → Int → Option (Bool × Unit)
 | 0, _, _, _, _, _, _, _ => none
 | fu + 1, vars8, l'8, next7, from'7, b4, t615, t179 => ref_OnceSet_b12 nf l' t61 t63 r5 b3 g4 (ref_OnceSet_l12 nf l' t61 t63 r5 b3 g4 fu) vars8 l'8 next7 from'7 b4 t615 t179
def ref_OnceSet_l10 (nf : Nat) (l' : List TZ01) (t61 : List Int) (t63 : Int) (r5 : List Int × Unit) (b : List TZ21 × TStfn1 × Int × Int × Int × List Int × Unit) (g4 : Int → List TZ01 → List (List Int) → List (List Int) → List Int → Int → Option (Bool × Unit)) : Nat → Int → List TZ01 → List (List Int) → List (List Int) → List TZ21 × TStfn1 × Int × Int × Int × List Int × Unit → List Int → Int → Option (Bool × Unit)
 | 0, _, _, _, _, _, _, _ => none
 | fu + 1, vars7, l'7, next6, from'6, b3, t614, t121 => ref_OnceSet_b10 nf (fun _ _ _ _ p4 v0 v1 v2 v3 v4 v5 v6 => ref_OnceSet_l12 nf l' t61 t63 r5 p4 g4 nf v0 v1 v2 v3 v4 v5 v6) l' t61 t63 r5 b g4 (ref_OnceSet_l10 nf l' t61 t63 r5 b g4 fu) vars7 l'7 next6 from'6 b3 t614 t121
def ref_OnceSet_l8 (nf : Nat) (l' : List TZ01) (t61 : List Int) (t63 : Int) (r5 : List Int × Unit) (l'4 : List TZ01) (t74 : Int) (g6 : Int → List TZ01 → List (List Int) → List (List Int) → List TZ21 × TStfn1 × Int × Int × Int × List Int × Unit → List Int → Int → Option (Bool × Unit)) (g4 : Int → List TZ01 → List (List Int) → List (List Int) → List Int → Int → Option (Bool × Unit)) : Nat → Int → List TZ01 → List (List Int) → List (List Int) → List TZ21 × TStfn1 × Int × Int × Int × List Int × Unit → Int × List Int × Unit → List Int → Int → Option (Bool × Unit)
 | 0, _, _, _, _, _, _, _, _ => none
 | fu + 1, vars6, l'6, next5, from'5, b2, j, t613, t81 => ref_OnceSet_b8 nf l' t61 t63 r5 l'4 t74 g6 g4 (ref_OnceSet_l8 nf l' t61 t63 r5 l'4 t74 g6 g4 fu) vars6 l'6 next5 from'5 b2 j t613 t81
def ref_OnceSet_l6 (nf : Nat) (l' : List TZ01) (t61 : List Int) (t63 : Int) (r5 : List Int × Unit) (l'4 : List TZ01) (g4 : Int → List TZ01 → List (List Int) → List (List Int) → List Int → Int → Option (Bool × Unit)) : Nat → Int → List TZ01 → List (List Int) → List (List Int) → List TZ21 × TStfn1 × Int × Int × Int × List Int × Unit → List Int → Int → Option (Bool × Unit)
 | 0, _, _, _, _, _, _, _ => none
 | fu + 1, vars5, l'5, next4, from'4, b, t612, t74 => ref_OnceSet_b6 nf (fun _ _ _ _ _ p5 v0 v1 v2 v3 v4 v5 v6 v7 => ref_OnceSet_l8 nf l' t61 t63 r5 l'4 p5 (fun vars5 l'5 next4 from'4 b t612 t74 => ref_OnceSet_l6 nf l' t61 t63 r5 l'4 g4 fu vars5 l'5 next4 from'4 b t612 t74) g4 nf v0 v1 v2 v3 v4 v5 v6 v7) (fun _ _ _ _ p4 v0 v1 v2 v3 v4 v5 v6 => ref_OnceSet_l10 nf l' t61 t63 r5 p4 g4 nf v0 v1 v2 v3 v4 v5 v6) l' t61 t63 r5 l'4 g4 (ref_OnceSet_l6 nf l' t61 t63 r5 l'4 g4 fu) vars5 l'5 next4 from'4 b t612 t74
def ref_OnceSet_l4 (nf : Nat) (l' : List TZ01) (r5 : List Int × Unit) : Nat → Int → List TZ01 → List (List Int) → List (List Int) → List Int → Int → Option (Bool × Unit)
 | 0, _, _, _, _, _, _ => none
 | fu + 1, vars4, l'4, next3, from'3, t61, t63 => ref_OnceSet_b4 nf (fun _ p1 p2 _ p4 v0 v1 v2 v3 v4 v5 v6 => ref_OnceSet_l6 nf l' p1 p2 r5 p4 (fun vars4 l'4 next3 from'3 t61 t63 => ref_OnceSet_l4 nf l' r5 fu vars4 l'4 next3 from'3 t61 t63) nf v0 v1 v2 v3 v4 v5 v6) l' r5 (ref_OnceSet_l4 nf l' r5 fu) vars4 l'4 next3 from'3 t61 t63
def ref_OnceSet_l2 (nf : Nat) (l' : List TZ01) (n' : Int) (g0 : Int → List TZ01 → List (List Int) → List (List Int) → Int → Option (Bool × Unit)) : Nat → Int → List TZ01 → List (List Int) → List (List Int) → Int → Int → Option (Bool × Unit)
 | 0, _, _, _, _, _, _ => none
 | fu + 1, vars3, l'3, next2, from'2, many, i => ref_OnceSet_b2 nf l' n' g0 (ref_OnceSet_l2 nf l' n' g0 fu) vars3 l'3 next2 from'2 many i
def ref_OnceSet_l0 (nf : Nat) (l' : List TZ01) : Nat → Int → List TZ01 → List (List Int) → List (List Int) → Int → Option (Bool × Unit)
 | 0, _, _, _, _, _ => none
 | fu + 1, vars2, l'2, next, from', n' => ref_OnceSet_b0 nf (fun _ p1 v0 v1 v2 v3 v4 v5 => ref_OnceSet_l2 nf l' p1 (fun vars2 l'2 next from' n' => ref_OnceSet_l0 nf l' fu vars2 l'2 next from' n') nf v0 v1 v2 v3 v4 v5) (fun _ p1 v0 v1 v2 v3 v4 v5 => ref_OnceSet_l4 nf l' p1 nf v0 v1 v2 v3 v4 v5) l' (ref_OnceSet_l0 nf l' fu) vars2 l'2 next from' n'
def ref_OnceSet_f (nf : Nat) (vars : Int) (l' : List TZ01) : Option (Bool × Unit) := ref_OnceSet_p nf (fun p0 v0 v1 v2 v3 v4 => ref_OnceSet_l0 nf p0 nf v0 v1 v2 v3 v4) vars l'
def q132I (nf b : Nat) (L : LC (Bool × Unit)) := LC.F tab (ref_OnceSet_phi nf) (fun _ F => iter nf F) ref_OnceSet_keep b L
def q132L0 (nf : Nat) : LC (Bool × Unit) := theL (findL tab (ref_OnceSet_phi nf) (fun _ F => iter nf F) ref_OnceSet_keep 0 0 (codeOf Try.f19) (fin tab q132R (resL ([]) Try.f19)) (fun _ _ => none) (fin tab q132R (resL ([]) Try.f19)))
def q132m0 (l' : List TZ01) (vars2 : Int) (l'2 : List TZ01) (next from' : List (List Int)) (n' : Int) : St := ⟨fresh, [(1, AV.v tZ11.sl mR1 l'), (2, AV.box 2 500002 iT1 mF1 vars2), (3, AV.box 3 500003 tZ11.sl mR1 l'2), (5, AV.box 5 500005 iT1.sl.sl (Md.own false mL1) next), (6, AV.ow 500006 iT1.sl.sl (Md.own false mL1) from'), (7, vI1 n'), (28, AV.dead)]⟩
def q132L2 (nf : Nat) (G0 : St → Option (Bool × Unit)) : LC (Bool × Unit) := theL (findL tab (ref_OnceSet_phi nf) (fun _ F => iter nf F) ref_OnceSet_keep 2 0 (q132L0 nf).c (fun st => norm (ref_OnceSet_keep 0) st G0) (q132L0 nf).Kx (q132L0 nf).Kr)
def q132m2 (l' : List TZ01) (n' vars3 : Int) (l'3 : List TZ01) (next2 from'2 : List (List Int)) (many i : Int) : St := ⟨fresh, [(1, AV.v tZ11.sl mR1 l'), (2, AV.box 2 500002 iT1 mF1 vars3), (3, AV.box 3 500003 tZ11.sl mR1 l'3), (5, AV.box 5 500005 iT1.sl.sl (Md.own false mL1) next2), (6, AV.ow 500006 iT1.sl.sl (Md.own false mL1) from'2), (7, vI1 n'), (8, vI1 many), (9, vI1 i), (28, AV.dead)]⟩
def q132L4 (nf : Nat) : LC (Bool × Unit) := theL (findL tab (ref_OnceSet_phi nf) (fun _ F => iter nf F) ref_OnceSet_keep 4 0 (codeOf Try.f19) (fin tab q132R (resL ([]) Try.f19)) (fun _ _ => none) (fin tab q132R (resL ([]) Try.f19)))
def q132m4 (l' : List TZ01) (r5 : List Int × Unit) (vars4 : Int) (l'4 : List TZ01) (next3 from'3 : List (List Int)) (t61 : List Int) (t63 : Int) : St := ⟨fresh, [(1, AV.v tZ11.sl mR1 l'), (2, AV.box 2 500002 iT1 mF1 vars4), (3, AV.box 3 500003 tZ11.sl mR1 l'4), (5, AV.box 5 500005 iT1.sl.sl (Md.own false mL1) next3), (6, AV.ow 500006 iT1.sl.sl (Md.own false mL1) from'3), (10, AV.clo 53 [AV.pl 2 2 [Stp.dr], AV.pl 3 3 [Stp.dr], AV.pl 5 5 [Stp.dr]]), (28, AV.dead), (59, AV.clo 53 [AV.pl 2 2 [Stp.dr], AV.pl 3 3 [Stp.dr], AV.pl 5 5 [Stp.dr]]), (61, AV.ow 500061 iT1.sl (Md.own false mL1) t61), (62, vI1 ((List.length r5.1) : Int)), (63, vI1 t63)]⟩
def q132L6 (nf : Nat) (G4 : St → Option (Bool × Unit)) : LC (Bool × Unit) := theL (findL tab (ref_OnceSet_phi nf) (fun _ F => iter nf F) ref_OnceSet_keep 6 4 (q132L4 nf).c (fun st => norm (ref_OnceSet_keep 4) st G4) (q132L4 nf).Kx (q132L4 nf).Kr)
def q132m6 (l' : List TZ01) (t61 : List Int) (t63 : Int) (r5 : List Int × Unit) (l'4 : List TZ01) (vars5 : Int) (l'5 : List TZ01) (next4 from'4 : List (List Int)) (b : List TZ21 × TStfn1 × Int × Int × Int × List Int × Unit) (t612 : List Int) (t74 : Int) : St := ⟨fresh, [(1, AV.v tZ11.sl mR1 l'), (2, AV.box 2 500002 iT1 mF1 vars5), (3, AV.box 3 500003 tZ11.sl mR1 l'5), (5, AV.box 5 500005 iT1.sl.sl (Md.own false mL1) next4), (6, AV.ow 500006 iT1.sl.sl (Md.own false mL1) from'4), (10, AV.clo 53 [AV.pl 2 2 [Stp.dr], AV.pl 3 3 [Stp.dr], AV.pl 5 5 [Stp.dr]]), (12, vI1 (t61.getD t63.toNat 0)), (13, AV.box 13 500013 tZ11 mR1 b), (28, AV.dead), (59, AV.clo 53 [AV.pl 2 2 [Stp.dr], AV.pl 3 3 [Stp.dr], AV.pl 5 5 [Stp.dr]]), (61, AV.ow 500061 iT1.sl (Md.own false mL1) t612), (62, vI1 ((List.length r5.1) : Int)), (63, vI1 t63), (71, AV.pl 13 13 [Stp.dr, Stp.fld 0]), (72, AV.v (iT1.pair (iT1.sl.pair Ty.unit)).sl mR1 (l'4.getD (Int.toNat (t61.getD t63.toNat 0)) ([], [], 0, 0, 0, [], ())).1), (73, vI1 ((List.length (l'4.getD (Int.toNat (t61.getD t63.toNat 0)) ([], [], 0, 0, 0, [], ())).1) : Int)), (74, vI1 t74)]⟩
def q132L8 (nf : Nat) (G4 G6 : St → Option (Bool × Unit)) : LC (Bool × Unit) := theL (findL tab (ref_OnceSet_phi nf) (fun _ F => iter nf F) ref_OnceSet_keep 8 6 (q132L6 nf G4).c (fun st => norm (ref_OnceSet_keep 6) st G6) (q132L6 nf G4).Kx (q132L6 nf G4).Kr)
def q132m8 (l' : List TZ01) (t61 : List Int) (t63 : Int) (r5 : List Int × Unit) (l'4 : List TZ01) (t74 vars6 : Int) (l'6 : List TZ01) (next5 from'5 : List (List Int)) (b2 : List TZ21 × TStfn1 × Int × Int × Int × List Int × Unit) (j : Int × List Int × Unit) (t613 : List Int) (t81 : Int) : St := ⟨fresh, [(1, AV.v tZ11.sl mR1 l'), (2, AV.box 2 500002 iT1 mF1 vars6), (3, AV.box 3 500003 tZ11.sl mR1 l'6), (5, AV.box 5 500005 iT1.sl.sl (Md.own false mL1) next5), (6, AV.ow 500006 iT1.sl.sl (Md.own false mL1) from'5), (10, AV.clo 53 [AV.pl 2 2 [Stp.dr], AV.pl 3 3 [Stp.dr], AV.pl 5 5 [Stp.dr]]), (12, vI1 (t61.getD t63.toNat 0)), (13, AV.box 13 500013 tZ11 mR1 b2), (15, AV.box 15 500015 (iT1.pair (iT1.sl.pair Ty.unit)) mR1 j), (28, AV.dead), (59, AV.clo 53 [AV.pl 2 2 [Stp.dr], AV.pl 3 3 [Stp.dr], AV.pl 5 5 [Stp.dr]]), (61, AV.ow 500061 iT1.sl (Md.own false mL1) t613), (62, vI1 ((List.length r5.1) : Int)), (63, vI1 t63), (71, AV.pl 13 13 [Stp.dr, Stp.fld 0]), (72, AV.v (iT1.pair (iT1.sl.pair Ty.unit)).sl mR1 (l'4.getD (Int.toNat (t61.getD t63.toNat 0)) ([], [], 0, 0, 0, [], ())).1), (73, vI1 ((List.length (l'4.getD (Int.toNat (t61.getD t63.toNat 0)) ([], [], 0, 0, 0, [], ())).1) : Int)), (74, vI1 t74), (78, AV.pl 15 15 [Stp.dr, Stp.fld 1]), (79, AV.v iT1.sl mR1 (List.getD (l'4.getD (Int.toNat (t61.getD t63.toNat 0)) ([], [], 0, 0, 0, [], ())).1 t74.toNat (0, [], ())).2.1), (80, vI1 ((List.length (List.getD (l'4.getD (Int.toNat (t61.getD t63.toNat 0)) ([], [], 0, 0, 0, [], ())).1 t74.toNat (0, [], ())).2.1) : Int)), (81, vI1 t81)]⟩
def q132L10 (nf : Nat) (G4 : St → Option (Bool × Unit)) : LC (Bool × Unit) := theL (findL tab (ref_OnceSet_phi nf) (fun _ F => iter nf F) ref_OnceSet_keep 10 4 (q132L4 nf).c (fun st => norm (ref_OnceSet_keep 4) st G4) (q132L4 nf).Kx (q132L4 nf).Kr)
def q132m10 (l' : List TZ01) (t61 : List Int) (t63 : Int) (r5 : List Int × Unit) (b : List TZ21 × TStfn1 × Int × Int × Int × List Int × Unit) (vars7 : Int) (l'7 : List TZ01) (next6 from'6 : List (List Int)) (b3 : List TZ21 × TStfn1 × Int × Int × Int × List Int × Unit) (t614 : List Int) (t121 : Int) : St := ⟨fresh, [(1, AV.v tZ11.sl mR1 l'), (2, AV.box 2 500002 iT1 mF1 vars7), (3, AV.box 3 500003 tZ11.sl mR1 l'7), (5, AV.box 5 500005 iT1.sl.sl (Md.own false mL1) next6), (6, AV.ow 500006 iT1.sl.sl (Md.own false mL1) from'6), (10, AV.clo 53 [AV.pl 2 2 [Stp.dr], AV.pl 3 3 [Stp.dr], AV.pl 5 5 [Stp.dr]]), (12, vI1 (t61.getD t63.toNat 0)), (13, AV.box 13 500013 tZ11 mR1 b3), (28, AV.dead), (59, AV.clo 53 [AV.pl 2 2 [Stp.dr], AV.pl 3 3 [Stp.dr], AV.pl 5 5 [Stp.dr]]), (61, AV.ow 500061 iT1.sl (Md.own false mL1) t614), (62, vI1 ((List.length r5.1) : Int)), (63, vI1 t63), (118, AV.pl 13 13 [Stp.dr, Stp.fld 1]), (119, AV.v tI5fn1.sl mR1 b.2.1), (120, vI1 ((List.length b.2.1) : Int)), (121, vI1 t121)]⟩
def q132L12 (nf : Nat) (G4 : St → Option (Bool × Unit)) : LC (Bool × Unit) := theL (findL tab (ref_OnceSet_phi nf) (fun _ F => iter nf F) ref_OnceSet_keep 12 4 (q132L4 nf).c (fun st => norm (ref_OnceSet_keep 4) st G4) (q132L4 nf).Kx (q132L4 nf).Kr)
def q132m12 (l' : List TZ01) (t61 : List Int) (t63 : Int) (r5 : List Int × Unit) (b3 : List TZ21 × TStfn1 × Int × Int × Int × List Int × Unit) (vars8 : Int) (l'8 : List TZ01) (next7 from'7 : List (List Int)) (b4 : List TZ21 × TStfn1 × Int × Int × Int × List Int × Unit) (t615 : List Int) (t179 : Int) : St := ⟨fresh, [(1, AV.v tZ11.sl mR1 l'), (2, AV.box 2 500002 iT1 mF1 vars8), (3, AV.box 3 500003 tZ11.sl mR1 l'8), (5, AV.box 5 500005 iT1.sl.sl (Md.own false mL1) next7), (6, AV.ow 500006 iT1.sl.sl (Md.own false mL1) from'7), (10, AV.clo 53 [AV.pl 2 2 [Stp.dr], AV.pl 3 3 [Stp.dr], AV.pl 5 5 [Stp.dr]]), (12, vI1 (t61.getD t63.toNat 0)), (13, AV.box 13 500013 tZ11 mR1 b4), (28, AV.dead), (59, AV.clo 53 [AV.pl 2 2 [Stp.dr], AV.pl 3 3 [Stp.dr], AV.pl 5 5 [Stp.dr]]), (61, AV.ow 500061 iT1.sl (Md.own false mL1) t615), (62, vI1 ((List.length r5.1) : Int)), (63, vI1 t63), (176, AV.pl 13 13 [Stp.dr, Stp.fld 5]), (177, AV.v iT1.sl mR1 b3.2.2.2.2.2.1), (178, vI1 ((List.length b3.2.2.2.2.2.1) : Int)), (179, vI1 t179)]⟩
theorem q132h12 (nf : Nat) (G4 : St → Option (Bool × Unit)) (l' : List TZ01) (t61 : List Int) (t63 : Int) (r5 : List Int × Unit) (b3 : List TZ21 × TStfn1 × Int × Int × Int × List Int × Unit) (fu : Nat) (vars8 : Int) (l'8 : List TZ01) (next7 from'7 : List (List Int)) (b4 : List TZ21 × TStfn1 × Int × Int × Int × List Int × Unit) (t615 : List Int) (t179 : Int) : iter (fu + 1) (q132I nf 12 (q132L12 nf G4)) (q132m12 l' t61 t63 r5 b3 vars8 l'8 next7 from'7 b4 t615 t179) = ref_OnceSet_b12 nf l' t61 t63 r5 b3 (fun vars4 l'4 next3 from'3 t61 t63 => G4 (q132m4 l' r5 vars4 l'4 next3 from'3 t61 t63)) (fun vars8 l'8 next7 from'7 b4 t615 t179 => iter fu (q132I nf 12 (q132L12 nf G4)) (q132m12 l' t61 t63 r5 b3 vars8 l'8 next7 from'7 b4 t615 t179)) vars8 l'8 next7 from'7 b4 t615 t179 := by kernel_rfl
theorem q132e12 (nf : Nat) (G4 : St → Option (Bool × Unit)) (l' : List TZ01) (t61 : List Int) (t63 : Int) (r5 : List Int × Unit) (b3 : List TZ21 × TStfn1 × Int × Int × Int × List Int × Unit) : ∀ (fu : Nat) (vars8 : Int) (l'8 : List TZ01) (next7 from'7 : List (List Int)) (b4 : List TZ21 × TStfn1 × Int × Int × Int × List Int × Unit) (t615 : List Int) (t179 : Int), iter fu (q132I nf 12 (q132L12 nf G4)) (q132m12 l' t61 t63 r5 b3 vars8 l'8 next7 from'7 b4 t615 t179) = ref_OnceSet_l12 nf l' t61 t63 r5 b3 (fun vars4 l'4 next3 from'3 t61 t63 => G4 (q132m4 l' r5 vars4 l'4 next3 from'3 t61 t63)) fu vars8 l'8 next7 from'7 b4 t615 t179 := by
 intro fu
 induction fu with
 | zero => intros; rfl
 | succ fu ih =>
  intro vars8 l'8 next7 from'7 b4 t615 t179
  rw [q132h12 nf G4 l' t61 t63 r5 b3 fu vars8 l'8 next7 from'7 b4 t615 t179]
  simp only [ih]
  rfl
theorem q132h10 (nf : Nat) (G4 : St → Option (Bool × Unit)) (l' : List TZ01) (t61 : List Int) (t63 : Int) (r5 : List Int × Unit) (b : List TZ21 × TStfn1 × Int × Int × Int × List Int × Unit) (fu : Nat) (vars7 : Int) (l'7 : List TZ01) (next6 from'6 : List (List Int)) (b3 : List TZ21 × TStfn1 × Int × Int × Int × List Int × Unit) (t614 : List Int) (t121 : Int) : iter (fu + 1) (q132I nf 10 (q132L10 nf G4)) (q132m10 l' t61 t63 r5 b vars7 l'7 next6 from'6 b3 t614 t121) = ref_OnceSet_b10 nf (fun _ _ _ _ p4 v0 v1 v2 v3 v4 v5 v6 => iter nf (q132I nf 12 (q132L12 nf G4)) (q132m12 l' t61 t63 r5 p4 v0 v1 v2 v3 v4 v5 v6)) l' t61 t63 r5 b (fun vars4 l'4 next3 from'3 t61 t63 => G4 (q132m4 l' r5 vars4 l'4 next3 from'3 t61 t63)) (fun vars7 l'7 next6 from'6 b3 t614 t121 => iter fu (q132I nf 10 (q132L10 nf G4)) (q132m10 l' t61 t63 r5 b vars7 l'7 next6 from'6 b3 t614 t121)) vars7 l'7 next6 from'6 b3 t614 t121 := by kernel_rfl
theorem q132e10 (nf : Nat) (G4 : St → Option (Bool × Unit)) (l' : List TZ01) (t61 : List Int) (t63 : Int) (r5 : List Int × Unit) (b : List TZ21 × TStfn1 × Int × Int × Int × List Int × Unit) : ∀ (fu : Nat) (vars7 : Int) (l'7 : List TZ01) (next6 from'6 : List (List Int)) (b3 : List TZ21 × TStfn1 × Int × Int × Int × List Int × Unit) (t614 : List Int) (t121 : Int), iter fu (q132I nf 10 (q132L10 nf G4)) (q132m10 l' t61 t63 r5 b vars7 l'7 next6 from'6 b3 t614 t121) = ref_OnceSet_l10 nf l' t61 t63 r5 b (fun vars4 l'4 next3 from'3 t61 t63 => G4 (q132m4 l' r5 vars4 l'4 next3 from'3 t61 t63)) fu vars7 l'7 next6 from'6 b3 t614 t121 := by
 intro fu
 induction fu with
 | zero => intros; rfl
 | succ fu ih =>
  intro vars7 l'7 next6 from'6 b3 t614 t121
  rw [q132h10 nf G4 l' t61 t63 r5 b fu vars7 l'7 next6 from'6 b3 t614 t121]
  simp only [ih, q132e12]
  rfl
theorem q132h8 (nf : Nat) (G4 G6 : St → Option (Bool × Unit)) (l' : List TZ01) (t61 : List Int) (t63 : Int) (r5 : List Int × Unit) (l'4 : List TZ01) (t74 : Int) (fu : Nat) (vars6 : Int) (l'6 : List TZ01) (next5 from'5 : List (List Int)) (b2 : List TZ21 × TStfn1 × Int × Int × Int × List Int × Unit) (j : Int × List Int × Unit) (t613 : List Int) (t81 : Int) : iter (fu + 1) (q132I nf 8 (q132L8 nf G4 G6)) (q132m8 l' t61 t63 r5 l'4 t74 vars6 l'6 next5 from'5 b2 j t613 t81) = ref_OnceSet_b8 nf l' t61 t63 r5 l'4 t74 (fun vars5 l'5 next4 from'4 b t612 t74 => G6 (q132m6 l' t61 t63 r5 l'4 vars5 l'5 next4 from'4 b t612 t74)) (fun vars4 l'4 next3 from'3 t61 t63 => G4 (q132m4 l' r5 vars4 l'4 next3 from'3 t61 t63)) (fun vars6 l'6 next5 from'5 b2 j t613 t81 => iter fu (q132I nf 8 (q132L8 nf G4 G6)) (q132m8 l' t61 t63 r5 l'4 t74 vars6 l'6 next5 from'5 b2 j t613 t81)) vars6 l'6 next5 from'5 b2 j t613 t81 := by kernel_rfl
theorem q132e8 (nf : Nat) (G4 G6 : St → Option (Bool × Unit)) (l' : List TZ01) (t61 : List Int) (t63 : Int) (r5 : List Int × Unit) (l'4 : List TZ01) (t74 : Int) : ∀ (fu : Nat) (vars6 : Int) (l'6 : List TZ01) (next5 from'5 : List (List Int)) (b2 : List TZ21 × TStfn1 × Int × Int × Int × List Int × Unit) (j : Int × List Int × Unit) (t613 : List Int) (t81 : Int), iter fu (q132I nf 8 (q132L8 nf G4 G6)) (q132m8 l' t61 t63 r5 l'4 t74 vars6 l'6 next5 from'5 b2 j t613 t81) = ref_OnceSet_l8 nf l' t61 t63 r5 l'4 t74 (fun vars5 l'5 next4 from'4 b t612 t74 => G6 (q132m6 l' t61 t63 r5 l'4 vars5 l'5 next4 from'4 b t612 t74)) (fun vars4 l'4 next3 from'3 t61 t63 => G4 (q132m4 l' r5 vars4 l'4 next3 from'3 t61 t63)) fu vars6 l'6 next5 from'5 b2 j t613 t81 := by
 intro fu
 induction fu with
 | zero => intros; rfl
 | succ fu ih =>
  intro vars6 l'6 next5 from'5 b2 j t613 t81
  rw [q132h8 nf G4 G6 l' t61 t63 r5 l'4 t74 fu vars6 l'6 next5 from'5 b2 j t613 t81]
  simp only [ih]
  rfl
theorem q132h6 (nf : Nat) (G4 : St → Option (Bool × Unit)) (l' : List TZ01) (t61 : List Int) (t63 : Int) (r5 : List Int × Unit) (l'4 : List TZ01) (fu : Nat) (vars5 : Int) (l'5 : List TZ01) (next4 from'4 : List (List Int)) (b : List TZ21 × TStfn1 × Int × Int × Int × List Int × Unit) (t612 : List Int) (t74 : Int) : iter (fu + 1) (q132I nf 6 (q132L6 nf G4)) (q132m6 l' t61 t63 r5 l'4 vars5 l'5 next4 from'4 b t612 t74) = ref_OnceSet_b6 nf (fun _ _ _ _ _ p5 v0 v1 v2 v3 v4 v5 v6 v7 => iter nf (q132I nf 8 (q132L8 nf G4 (iter fu (q132I nf 6 (q132L6 nf G4))))) (q132m8 l' t61 t63 r5 l'4 p5 v0 v1 v2 v3 v4 v5 v6 v7)) (fun _ _ _ _ p4 v0 v1 v2 v3 v4 v5 v6 => iter nf (q132I nf 10 (q132L10 nf G4)) (q132m10 l' t61 t63 r5 p4 v0 v1 v2 v3 v4 v5 v6)) l' t61 t63 r5 l'4 (fun vars4 l'4 next3 from'3 t61 t63 => G4 (q132m4 l' r5 vars4 l'4 next3 from'3 t61 t63)) (fun vars5 l'5 next4 from'4 b t612 t74 => iter fu (q132I nf 6 (q132L6 nf G4)) (q132m6 l' t61 t63 r5 l'4 vars5 l'5 next4 from'4 b t612 t74)) vars5 l'5 next4 from'4 b t612 t74 := by kernel_rfl
theorem q132e6 (nf : Nat) (G4 : St → Option (Bool × Unit)) (l' : List TZ01) (t61 : List Int) (t63 : Int) (r5 : List Int × Unit) (l'4 : List TZ01) : ∀ (fu : Nat) (vars5 : Int) (l'5 : List TZ01) (next4 from'4 : List (List Int)) (b : List TZ21 × TStfn1 × Int × Int × Int × List Int × Unit) (t612 : List Int) (t74 : Int), iter fu (q132I nf 6 (q132L6 nf G4)) (q132m6 l' t61 t63 r5 l'4 vars5 l'5 next4 from'4 b t612 t74) = ref_OnceSet_l6 nf l' t61 t63 r5 l'4 (fun vars4 l'4 next3 from'3 t61 t63 => G4 (q132m4 l' r5 vars4 l'4 next3 from'3 t61 t63)) fu vars5 l'5 next4 from'4 b t612 t74 := by
 intro fu
 induction fu with
 | zero => intros; rfl
 | succ fu ih =>
  intro vars5 l'5 next4 from'4 b t612 t74
  rw [q132h6 nf G4 l' t61 t63 r5 l'4 fu vars5 l'5 next4 from'4 b t612 t74]
  simp only [ih, q132e8, q132e10]
  rfl
theorem q132h4 (nf : Nat) (l' : List TZ01) (r5 : List Int × Unit) (fu : Nat) (vars4 : Int) (l'4 : List TZ01) (next3 from'3 : List (List Int)) (t61 : List Int) (t63 : Int) : iter (fu + 1) (q132I nf 4 (q132L4 nf)) (q132m4 l' r5 vars4 l'4 next3 from'3 t61 t63) = ref_OnceSet_b4 nf (fun _ p1 p2 _ p4 v0 v1 v2 v3 v4 v5 v6 => iter nf (q132I nf 6 (q132L6 nf (iter fu (q132I nf 4 (q132L4 nf))))) (q132m6 l' p1 p2 r5 p4 v0 v1 v2 v3 v4 v5 v6)) l' r5 (fun vars4 l'4 next3 from'3 t61 t63 => iter fu (q132I nf 4 (q132L4 nf)) (q132m4 l' r5 vars4 l'4 next3 from'3 t61 t63)) vars4 l'4 next3 from'3 t61 t63 := by kernel_rfl
theorem q132e4 (nf : Nat) (l' : List TZ01) (r5 : List Int × Unit) : ∀ (fu : Nat) (vars4 : Int) (l'4 : List TZ01) (next3 from'3 : List (List Int)) (t61 : List Int) (t63 : Int), iter fu (q132I nf 4 (q132L4 nf)) (q132m4 l' r5 vars4 l'4 next3 from'3 t61 t63) = ref_OnceSet_l4 nf l' r5 fu vars4 l'4 next3 from'3 t61 t63 := by
 intro fu
 induction fu with
 | zero => intros; rfl
 | succ fu ih =>
  intro vars4 l'4 next3 from'3 t61 t63
  rw [q132h4 nf l' r5 fu vars4 l'4 next3 from'3 t61 t63]
  simp only [ih, q132e6]
  rfl
theorem q132h2 (nf : Nat) (G0 : St → Option (Bool × Unit)) (l' : List TZ01) (n' : Int) (fu : Nat) (vars3 : Int) (l'3 : List TZ01) (next2 from'2 : List (List Int)) (many i : Int) : iter (fu + 1) (q132I nf 2 (q132L2 nf G0)) (q132m2 l' n' vars3 l'3 next2 from'2 many i) = ref_OnceSet_b2 nf l' n' (fun vars2 l'2 next from' n' => G0 (q132m0 l' vars2 l'2 next from' n')) (fun vars3 l'3 next2 from'2 many i => iter fu (q132I nf 2 (q132L2 nf G0)) (q132m2 l' n' vars3 l'3 next2 from'2 many i)) vars3 l'3 next2 from'2 many i := by kernel_rfl
theorem q132e2 (nf : Nat) (G0 : St → Option (Bool × Unit)) (l' : List TZ01) (n' : Int) : ∀ (fu : Nat) (vars3 : Int) (l'3 : List TZ01) (next2 from'2 : List (List Int)) (many i : Int), iter fu (q132I nf 2 (q132L2 nf G0)) (q132m2 l' n' vars3 l'3 next2 from'2 many i) = ref_OnceSet_l2 nf l' n' (fun vars2 l'2 next from' n' => G0 (q132m0 l' vars2 l'2 next from' n')) fu vars3 l'3 next2 from'2 many i := by
 intro fu
 induction fu with
 | zero => intros; rfl
 | succ fu ih =>
  intro vars3 l'3 next2 from'2 many i
  rw [q132h2 nf G0 l' n' fu vars3 l'3 next2 from'2 many i]
  simp only [ih]
  rfl
theorem q132h0 (nf : Nat) (l' : List TZ01) (fu : Nat) (vars2 : Int) (l'2 : List TZ01) (next from' : List (List Int)) (n' : Int) : iter (fu + 1) (q132I nf 0 (q132L0 nf)) (q132m0 l' vars2 l'2 next from' n') = ref_OnceSet_b0 nf (fun _ p1 v0 v1 v2 v3 v4 v5 => iter nf (q132I nf 2 (q132L2 nf (iter fu (q132I nf 0 (q132L0 nf))))) (q132m2 l' p1 v0 v1 v2 v3 v4 v5)) (fun _ p1 v0 v1 v2 v3 v4 v5 => iter nf (q132I nf 4 (q132L4 nf)) (q132m4 l' p1 v0 v1 v2 v3 v4 v5)) l' (fun vars2 l'2 next from' n' => iter fu (q132I nf 0 (q132L0 nf)) (q132m0 l' vars2 l'2 next from' n')) vars2 l'2 next from' n' := by kernel_rfl
theorem q132e0 (nf : Nat) (l' : List TZ01) : ∀ (fu : Nat) (vars2 : Int) (l'2 : List TZ01) (next from' : List (List Int)) (n' : Int), iter fu (q132I nf 0 (q132L0 nf)) (q132m0 l' vars2 l'2 next from' n') = ref_OnceSet_l0 nf l' fu vars2 l'2 next from' n' := by
 intro fu
 induction fu with
 | zero => intros; rfl
 | succ fu ih =>
  intro vars2 l'2 next from' n'
  rw [q132h0 nf l' fu vars2 l'2 next from' n']
  simp only [ih, q132e2, q132e4]
  rfl
theorem ref_OnceSet_eq (nf : Nat) (vars : Int) (l' : List TZ01) : runF tab (ref_OnceSet_phi nf) ref_OnceSet_keep nf q132P q132R (resL ([]) Try.f19) (codeOf Try.f19) ⟨vars, l', ()⟩ = ref_OnceSet_f nf vars l' := by
 refine Eq.trans (b := ref_OnceSet_p nf (fun p0 v0 v1 v2 v3 v4 => iter nf (q132I nf 0 (q132L0 nf)) (q132m0 p0 v0 v1 v2 v3 v4)) vars l') (by kernel_rfl) ?_
 simp only [q132e0]
 rfl
def ref_OnceSet_F (nf : Nat) (x : denPs q132P) : Option (denL q132R) := ref_OnceSet_f nf x.1 x.2.1
def ref_OnceSet_C (nf : Nat) : Contract := ⟨q132P, q132R, ref_OnceSet_F nf, []⟩
theorem ref_OnceSet_ok : FnOK Try.prog 19 := ⟨Try.f19, codeOf Try.f19, Try.func19, by kernel_rfl, by kernel_rfl⟩
theorem ref_OnceSet_holds (nf : Nat) : Contract.Holds Try.prog 19 (ref_OnceSet_C nf) :=
 fn_holds (Φ := ref_OnceSet_phi nf) (keep := ref_OnceSet_keep) (n := nf) ⟨tabs.1, tabs.2, (ctx_cons ref_Has_ok (ref_Has_holds nf) (ctx_cons ref_Froms_ok (ref_Froms_holds nf) (ctx_cons ref_Nexts_ok (ref_Nexts_holds nf) (ctx_cons ref_Bare_ok (ref_Bare_holds nf) (ctx_cons ref_setsOf_ok (ref_setsOf_holds nf) (ctx_cons ref_OnceSet_1_ok (ref_OnceSet_1_holds nf) (ctx_cons ref_Reach_ok (ref_Reach_holds nf) ctx_nil))))))), mixed, bk_ok bkls rfl⟩ (fn := Try.f19) ⟨Try.func19, by kernel_rfl, by kernel_rfl, by kernel_rfl⟩ (fun x => ref_OnceSet_eq nf x.1 x.2.1)

/-! codemason codemasonlaw.SingleOnces -/
abbrev q133P : List PT := [.val (.int .i64) (.bor false false), .val (.sl (.pair (.sl (.pair (.int .i64) (.pair (.sl (.int .i64)) (.unit)))) (.pair (.sl tI5fn1) (.pair (.int .i64) (.pair (.int .i64) (.pair (.int .i64) (.pair (.sl (.int .i64)) (.unit)))))))) (.bor false false)]
abbrev q133R : List (Ty × Md) := [(.bool, .bor false true)]
def law_SingleOnces_phi (nf : Nat) : Nat → Option Contract := lookC [(17, single_Once_C nf), (18, ref_SingleCheck_C nf), (19, ref_OnceSet_C nf)]
def law_SingleOnces_keep : Nat → List Nat := lookK []
def law_SingleOnces_p (nf : Nat) (vars : Int) (l' : List TZ01) : Option (Bool × Unit) :=
 Option.bind (single_Once_f nf vars l') fun r =>
 Option.bind (ref_SingleCheck_f nf vars l') fun r2 =>
 bif r2.1 != 0 then
  bif r.2.1 == r2.1 then
   some ((!r.1, ()))
  else
   some ((false, ()))
 else
  bif r.2.1 == 0 then
   Option.bind (ref_OnceSet_f nf vars l') fun r3 =>
   some ((r.1 == r3.1, ()))
  else
   some ((false, ()))
def law_SingleOnces_f (nf : Nat) (vars : Int) (l' : List TZ01) : Option (Bool × Unit) := law_SingleOnces_p nf vars l'
theorem law_SingleOnces_eq (nf : Nat) (vars : Int) (l' : List TZ01) : runF tab (law_SingleOnces_phi nf) law_SingleOnces_keep nf q133P q133R (resL ([]) Try.f5) (codeOf Try.f5) ⟨vars, l', ()⟩ = law_SingleOnces_f nf vars l' := by kernel_rfl
def law_SingleOnces_F (nf : Nat) (x : denPs q133P) : Option (denL q133R) := law_SingleOnces_f nf x.1 x.2.1
def law_SingleOnces_C (nf : Nat) : Contract := ⟨q133P, q133R, law_SingleOnces_F nf, []⟩
theorem law_SingleOnces_ok : FnOK Try.prog 5 := ⟨Try.f5, codeOf Try.f5, Try.func5, by kernel_rfl, by kernel_rfl⟩
theorem law_SingleOnces_holds (nf : Nat) : Contract.Holds Try.prog 5 (law_SingleOnces_C nf) :=
 fn_holds (Φ := law_SingleOnces_phi nf) (keep := law_SingleOnces_keep) (n := nf) ⟨tabs.1, tabs.2, (ctx_cons single_Once_ok (single_Once_holds nf) (ctx_cons ref_SingleCheck_ok (ref_SingleCheck_holds nf) (ctx_cons ref_OnceSet_ok (ref_OnceSet_holds nf) ctx_nil))), mixed, bk_ok bkls rfl⟩ (fn := Try.f5) ⟨Try.func5, by kernel_rfl, by kernel_rfl, by kernel_rfl⟩ (fun x => law_SingleOnces_eq nf x.1 x.2.1)

/-! codemason codemasonref.Bit -/
abbrev q134P : List PT := [.val (.int .u32) (.bor true false), .val (.int .i64) (.bor true false)]
abbrev q134R : List (Ty × Md) := [(.bool, .bor false true)]
def ref_Bit_phi (_ : Nat) : Nat → Option Contract := lookC []
def ref_Bit_keep : Nat → List Nat := lookK []
def ref_Bit_p (_ : Nat) (w i : Int) : Option (Bool × Unit) :=
 bif decide (i ≥ 0) then
  bif decide (i < 32) then
   bif decide (0 ≤ IntKind.u64.wrap i) then
    some ((IntKind.u32.wrap ((BitVec.ofInt IntKind.u32.bits w &&& BitVec.ofInt IntKind.u32.bits (shlI IntKind.u32 1 (IntKind.u64.wrap i))).toNat : Int) != 0, ()))
   else
    none
  else
   some ((false, ()))
 else
  some ((false, ()))
def ref_Bit_f (nf : Nat) (w i : Int) : Option (Bool × Unit) := ref_Bit_p nf w i
theorem ref_Bit_eq (nf : Nat) (w i : Int) : runF tab (ref_Bit_phi nf) ref_Bit_keep nf q134P q134R (resL ([]) Try.f37) (codeOf Try.f37) ⟨w, i, ()⟩ = ref_Bit_f nf w i := by kernel_rfl
def ref_Bit_F (nf : Nat) (x : denPs q134P) : Option (denL q134R) := ref_Bit_f nf x.1 x.2.1
def ref_Bit_C (nf : Nat) : Contract := ⟨q134P, q134R, ref_Bit_F nf, []⟩
theorem ref_Bit_ok : FnOK Try.prog 37 := ⟨Try.f37, codeOf Try.f37, Try.func37, by kernel_rfl, by kernel_rfl⟩
theorem ref_Bit_holds (nf : Nat) : Contract.Holds Try.prog 37 (ref_Bit_C nf) :=
 fn_holds (Φ := ref_Bit_phi nf) (keep := ref_Bit_keep) (n := nf) ⟨tabs.1, tabs.2, ctx_nil, mixed, bk_ok bkls rfl⟩ (fn := Try.f37) ⟨Try.func37, by kernel_rfl, by kernel_rfl, by kernel_rfl⟩ (fun x => ref_Bit_eq nf x.1 x.2.1)
end
end Go.Proofs.Ytoglkjmdloppcaa.S
