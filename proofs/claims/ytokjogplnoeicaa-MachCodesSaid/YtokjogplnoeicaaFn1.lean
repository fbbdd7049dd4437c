/- The functions of the code, as plain functions, and the theorems that say so: made by a program of this proof's own. -/
import Derived.Test.YtokjogplnoeicaaAbCheck
import Derived.Test.YtokjogplnoeicaaChecked
namespace Go.Proofs.Ytokjogplnoeicaa.S
open Go Go.Ab
noncomputable section
def bkl : List (Nat × Bk) := [(77, .mk 121 81), (121, .gen 81)]
def tyL : List (Nat × Ty) := [(2, .int .i64), (3, .int .i64), (4, .bool), (5, .int .u8), (6, .int .u8), (7, .pair (.int .i64) (.pair (.int .i64) (.pair (.bool) (.pair (.int .u8) (.unit))))), (8, .pair (.int .i64) (.pair (.int .i64) (.pair (.bool) (.pair (.int .u8) (.unit))))), (12, .int .u64), (21, .int .i32), (22, .sl (.pair (.sl (.pair (.int .i64) (.pair (.int .i64) (.pair (.int .i64) (.pair (.int .i64) (.pair (.int .i64) (.unit))))))) (.pair (.int .i64) (.pair (.int .i64) (.pair (.int .i64) (.unit)))))), (23, .int .i64), (26, .sl (.sl (.int .i64))), (31, .sl (.int .i64)), (39, .int .u32), (40, .sl (.int .u32)), (46, .pair (.int .i64) (.pair (.int .i64) (.unit))), (47, .pair (.int .i64) (.pair (.int .i64) (.unit))), (58, .sl (.pair (.int .i64) (.pair (.int .i64) (.unit)))), (59, .sl (.sl (.pair (.int .i64) (.pair (.int .i64) (.unit))))), (62, .pair (.int .i64) (.pair (.int .i64) (.unit))), (63, .pair (.int .i64) (.pair (.int .i64) (.unit))), (81, .sl (.pair (.int .i64) (.pair (.int .i64) (.pair (.int .i64) (.pair (.int .i64) (.pair (.int .i64) (.unit))))))), (82, .pair (.sl (.pair (.int .i64) (.pair (.int .i64) (.pair (.int .i64) (.pair (.int .i64) (.pair (.int .i64) (.unit))))))) (.pair (.int .i64) (.pair (.int .i64) (.pair (.int .i64) (.unit))))), (83, .pair (.sl (.pair (.int .i64) (.pair (.int .i64) (.pair (.int .i64) (.pair (.int .i64) (.pair (.int .i64) (.unit))))))) (.pair (.int .i64) (.pair (.int .i64) (.pair (.int .i64) (.unit))))), (86, .sl (.sl (.bool))), (91, .sl (.bool)), (92, .sl (.int .u8)), (97, .pair (.int .i64) (.pair (.int .i64) (.pair (.int .i64) (.pair (.int .i64) (.pair (.int .i64) (.unit)))))), (98, .pair (.int .i64) (.pair (.int .i64) (.pair (.int .i64) (.pair (.int .i64) (.pair (.int .i64) (.unit)))))), (105, .int .u64), (106, .sl (.pair (.int .i64) (.pair (.int .i64) (.unit)))), (126, .pair (.sl (.sl (.pair (.int .i64) (.pair (.int .i64) (.unit))))) (.pair (.bool) (.unit))), (127, .pair (.sl (.sl (.pair (.int .i64) (.pair (.int .i64) (.unit))))) (.pair (.bool) (.unit))), (139, .pair (.sl (.pair (.sl (.pair (.int .i64) (.pair (.int .i64) (.pair (.int .i64) (.pair (.int .i64) (.pair (.int .i64) (.unit))))))) (.pair (.int .i64) (.pair (.int .i64) (.pair (.int .i64) (.unit)))))) (.unit)), (140, .pair (.sl (.pair (.sl (.pair (.int .i64) (.pair (.int .i64) (.pair (.int .i64) (.pair (.int .i64) (.pair (.int .i64) (.unit))))))) (.pair (.int .i64) (.pair (.int .i64) (.pair (.int .i64) (.unit)))))) (.unit)), (145, .pair (.sl (.pair (.sl (.pair (.int .i64) (.pair (.int .i64) (.pair (.int .i64) (.pair (.int .i64) (.pair (.int .i64) (.unit))))))) (.pair (.int .i64) (.pair (.int .i64) (.pair (.int .i64) (.unit)))))) (.pair (.sl (.sl (.int .i64))) (.pair (.int .u32) (.pair (.sl (.sl (.bool))) (.pair (.int .u32) (.pair (.sl (.int .u32)) (.unit))))))), (146, .pair (.sl (.pair (.sl (.pair (.int .i64) (.pair (.int .i64) (.pair (.int .i64) (.pair (.int .i64) (.pair (.int .i64) (.unit))))))) (.pair (.int .i64) (.pair (.int .i64) (.pair (.int .i64) (.unit)))))) (.pair (.sl (.sl (.int .i64))) (.pair (.int .u32) (.pair (.sl (.sl (.bool))) (.pair (.int .u32) (.pair (.sl (.int .u32)) (.unit))))))), (155, .mp (.int .i64) (.int .i64)), (189, .int .u8), (190, .int .u8), (193, .int .i32), (194, .int .i32)]
def mdL : List (Nat × Md) := [(2, .bor false true), (3, .bor false true), (4, .bor false true), (5, .bor false true), (6, .bor false true), (7, .bor false true), (8, .bor false true), (12, .bor false true), (21, .bor false true), (22, .own false (.bor false false)), (23, .bor false true), (26, .own false (.bor false false)), (31, .own false (.bor false false)), (39, .bor false true), (40, .own false (.bor false false)), (46, .bor false true), (47, .bor false true), (58, .own false (.bor false false)), (59, .own false (.bor false false)), (62, .bor false true), (63, .bor false true), (81, .own false (.bor false false)), (82, .bor true false), (83, .bor true false), (86, .own false (.bor false false)), (91, .own false (.bor false false)), (92, .own false (.bor false false)), (97, .bor false true), (98, .bor false true), (105, .bor false true), (106, .own false (.bor false false)), (126, .bor true false), (127, .pair (.own false (.own true (.bor false false))) (.pair (.bor false true) (.bor false false))), (139, .bor true false), (140, .pair (.own false (.pair (.own true (.bor false true)) (.bor false true))) (.bor false false)), (145, .bor true false), (146, .pair (.bor false false) (.pair (.bor false false) (.pair (.bor false true) (.pair (.own false (.own false (.bor false true))) (.pair (.bor false true) (.pair (.own false (.bor false false)) (.bor false false))))))), (155, .own false (.bor false false)), (189, .bor false true), (190, .bor false true), (193, .bor false true), (194, .bor false true)]
def tab : Tab := ⟨lookT tyL, lookM mdL, hasT [185], hasT [9, 10, 11], fun _ => none, lookB bkl⟩
theorem bkls : BkL Try.prog bkl := by
 intro x hx
 simp only [bkl, List.mem_cons, List.not_mem_nil, or_false] at hx
 rcases hx with rfl | rfl
 ·exact ⟨⟨Try.f77, codeOf Try.f77, Try.func77, by kernel_rfl, by kernel_rfl⟩, Try.f77, 112, 111, Try.func77, by kernel_rfl, by kernel_rfl, by kernel_rfl⟩
 ·exact ⟨⟨Try.f121, codeOf Try.f121, Try.func121, by kernel_rfl, by kernel_rfl⟩, Try.f121, 3, 98, 4, 160, Try.func121, by kernel_rfl, by kernel_rfl, by kernel_rfl, by kernel_rfl⟩
theorem tabs : TabOK Try.prog tab ∧ EqOK Try.prog tab := tab_ok (by kernel_rfl) (by kernel_rfl)
theorem mixed : Try.prog.follows .mixedOrders = true := by kernel_rfl
abbrev mL1 : Md := (Md.bor false false)
abbrev mR1 : Md := (Md.bor true false)
abbrev iT1 : Ty := (Ty.int IntKind.i64)
abbrev tI5fn1 : Ty := ((Ty.int IntKind.i64).pair ((Ty.int IntKind.i64).pair ((Ty.int IntKind.i64).pair ((Ty.int IntKind.i64).pair ((Ty.int IntKind.i64).pair Ty.unit)))))
abbrev tI3fn1 : Ty := ((Ty.int IntKind.i64).pair ((Ty.int IntKind.i64).pair ((Ty.int IntKind.i64).pair Ty.unit)))
abbrev TBlfn1 : Type := List (List (Int × Int × Int × Int × Int × Unit) × Int × Int × Int × Unit)
abbrev TZ01 : Type := (Int × Int × Int × Int × Int × Unit)
abbrev vI1 := AV.v (Ty.int IntKind.i64) (Md.bor false true)

/-! codemason codemasonref.Inside -/
abbrev q10P : List PT := [.val (.int .i64) (.bor true false), .val (.sl (.int .i64)) (.bor true false)]
abbrev q10R : List (Ty × Md) := [(.bool, .bor false true)]
def ref_Inside_phi (_ : Nat) : Nat → Option Contract := lookC []
def ref_Inside_keep : Nat → List Nat := lookK [(0, [0, 1, 7, 8, 9])]
def ref_Inside_b0 (_ : Nat) (n' : Int) (l' : List Int) (g0 : Int → Option (Bool × Unit)) (t9 : Int) : Option (Bool × Unit) :=
 bif decide (t9 < (l'.length : Int)) then
  bif inb t9 l'.length then
   bif decide (l'.getD t9.toNat 0 < 0) then
    some ((false, ()))
   else
    bif decide (l'.getD t9.toNat 0 ≥ n') then
     some ((false, ()))
    else
     g0 (IntKind.i64.wrap (t9 + 1))
  else
   none
 else
  some ((true, ()))
def ref_Inside_p (_ : Nat) (l0 : Int → List Int → Int → Option (Bool × Unit)) (n' : Int) (l' : List Int) : Option (Bool × Unit) :=
 l0 n' l' 0
def ref_Inside_l0 (nf : Nat) (n' : Int) (l' : List Int) : Nat → Int → Option (Bool × Unit)
 | 0, _ => none
 | fu + 1, t9 => ref_Inside_b0 nf n' l' (ref_Inside_l0 nf n' l' fu) t9
def ref_Inside_f (nf : Nat) (n' : Int) (l' : List Int) : Option (Bool × Unit) := ref_Inside_p nf (fun p0 p1 v0 => ref_Inside_l0 nf p0 p1 nf v0) n' l'
def q10I (nf b : Nat) (L : LC (Bool × Unit)) := LC.F tab (ref_Inside_phi nf) (fun _ F => iter nf F) ref_Inside_keep b L
def q10L0 (nf : Nat) : LC (Bool × Unit) := theL (findL tab (ref_Inside_phi nf) (fun _ F => iter nf F) ref_Inside_keep 0 0 (codeOf Try.f55) (fin tab q10R (resL ([]) Try.f55)) (fun _ _ => none) (fin tab q10R (resL ([]) Try.f55)))
def q10m0 (n' : Int) (l' : List Int) (t9 : Int) : St := ⟨fresh, [(0, vI1 n'), (1, AV.v iT1.sl mR1 l'), (7, AV.v iT1.sl mR1 l'), (8, vI1 (l'.length : Int)), (9, vI1 t9)]⟩
theorem q10h0 (nf : Nat) (n' : Int) (l' : List Int) (fu : Nat) (t9 : Int) : iter (fu + 1) (q10I nf 0 (q10L0 nf)) (q10m0 n' l' t9) = ref_Inside_b0 nf n' l' (fun t9 => iter fu (q10I nf 0 (q10L0 nf)) (q10m0 n' l' t9)) t9 := by kernel_rfl
theorem q10e0 (nf : Nat) (n' : Int) (l' : List Int) : ∀ (fu : Nat) (t9 : Int), iter fu (q10I nf 0 (q10L0 nf)) (q10m0 n' l' t9) = ref_Inside_l0 nf n' l' fu t9 := by
 intro fu
 induction fu with
 | zero => intros; rfl
 | succ fu ih =>
  intro t9
  rw [q10h0 nf n' l' fu t9]
  simp only [ih]
  rfl
theorem ref_Inside_eq (nf : Nat) (n' : Int) (l' : List Int) : runF tab (ref_Inside_phi nf) ref_Inside_keep nf q10P q10R (resL ([]) Try.f55) (codeOf Try.f55) ⟨n', l', ()⟩ = ref_Inside_f nf n' l' := by
 refine Eq.trans (b := ref_Inside_p nf (fun p0 p1 v0 => iter nf (q10I nf 0 (q10L0 nf)) (q10m0 p0 p1 v0)) n' l') (by kernel_rfl) ?_
 simp only [q10e0]
 rfl
def ref_Inside_F (nf : Nat) (x : denPs q10P) : Option (denL q10R) := ref_Inside_f nf x.1 x.2.1
def ref_Inside_C (nf : Nat) : Contract := ⟨q10P, q10R, ref_Inside_F nf, []⟩
theorem ref_Inside_ok : FnOK Try.prog 55 := ⟨Try.f55, codeOf Try.f55, Try.func55, by kernel_rfl, by kernel_rfl⟩
theorem ref_Inside_holds (nf : Nat) : Contract.Holds Try.prog 55 (ref_Inside_C nf) :=
 fn_holds (Φ := ref_Inside_phi nf) (keep := ref_Inside_keep) (n := nf) ⟨tabs.1, tabs.2, ctx_nil, mixed, bk_ok bkls rfl⟩ (fn := Try.f55) ⟨Try.func55, by kernel_rfl, by kernel_rfl, by kernel_rfl⟩ (fun x => ref_Inside_eq nf x.1 x.2.1)

/-! codemason codemasonref.Value -/
abbrev q11P : List PT := [.val (.int .i64) (.bor true false)]
abbrev q11R : List (Ty × Md) := [(.bool, .bor false true)]
def ref_Value_phi (_ : Nat) : Nat → Option Contract := lookC []
def ref_Value_keep : Nat → List Nat := lookK []
def ref_Value_p (_ : Nat) (x : Int) : Option (Bool × Unit) :=
 bif decide (x ≥ 0) then
  some ((decide (x ≤ 255), ()))
 else
  some ((false, ()))
def ref_Value_f (nf : Nat) (x : Int) : Option (Bool × Unit) := ref_Value_p nf x
theorem ref_Value_eq (nf : Nat) (x : Int) : runF tab (ref_Value_phi nf) ref_Value_keep nf q11P q11R (resL ([]) Try.f96) (codeOf Try.f96) ⟨x, ()⟩ = ref_Value_f nf x := by kernel_rfl
def ref_Value_F (nf : Nat) (x : denPs q11P) : Option (denL q11R) := ref_Value_f nf x.1
def ref_Value_C (nf : Nat) : Contract := ⟨q11P, q11R, ref_Value_F nf, []⟩
theorem ref_Value_ok : FnOK Try.prog 96 := ⟨Try.f96, codeOf Try.f96, Try.func96, by kernel_rfl, by kernel_rfl⟩
theorem ref_Value_holds (nf : Nat) : Contract.Holds Try.prog 96 (ref_Value_C nf) :=
 fn_holds (Φ := ref_Value_phi nf) (keep := ref_Value_keep) (n := nf) ⟨tabs.1, tabs.2, ctx_nil, mixed, bk_ok bkls rfl⟩ (fn := Try.f96) ⟨Try.func96, by kernel_rfl, by kernel_rfl, by kernel_rfl⟩ (fun x => ref_Value_eq nf x.1)

/-! codemason codemasonref.StepCheck -/
abbrev q12P : List PT := [.val (.int .i64) (.bor true false), .val (.int .i64) (.bor true false), .val (.pair (.int .i64) (.pair (.int .i64) (.pair (.int .i64) (.pair (.int .i64) (.pair (.int .i64) (.unit)))))) (.bor true false)]
abbrev q12R : List (Ty × Md) := [(.int .i64, .bor false true)]
def ref_StepCheck_phi (nf : Nat) : Nat → Option Contract := lookC [(55, ref_Inside_C nf), (96, ref_Value_C nf)]
def ref_StepCheck_keep : Nat → List Nat := lookK []
def ref_StepCheck_p (nf : Nat) (vars regs : Int) (s : Int × Int × Int × Int × Int × Unit) : Option (Int × Unit) :=
 bif decide (s.1 < 1) then
  some ((6, ()))
 else
  bif decide (s.1 > 6) then
   some ((6, ()))
  else
   bif s.1 == 1 then
    Option.bind (ref_Value_f nf s.2.2.2.2.1) fun r =>
    bif !r.1 then
     some ((4, ()))
    else
     bif s.1 == 2 then
      Option.bind (ref_Inside_f nf vars ([s.2.2.2.2.1])) fun r2 =>
      bif !r2.1 then
       some ((4, ()))
      else
       Option.bind (ref_Inside_f nf regs ([s.2.1])) fun r3 =>
       bif !r3.1 then
        some ((2, ()))
       else
        bif decide (s.1 ≥ 3) then
         Option.bind (ref_Inside_f nf regs ([s.2.2.1, s.2.2.2.1])) fun r4 =>
         bif !r4.1 then
          some ((2, ()))
         else
          some ((0, ()))
        else
         some ((0, ()))
     else
      Option.bind (ref_Inside_f nf regs ([s.2.1])) fun r5 =>
      bif !r5.1 then
       some ((2, ()))
      else
       bif decide (s.1 ≥ 3) then
        Option.bind (ref_Inside_f nf regs ([s.2.2.1, s.2.2.2.1])) fun r6 =>
        bif !r6.1 then
         some ((2, ()))
        else
         some ((0, ()))
       else
        some ((0, ()))
   else
    bif s.1 == 2 then
     Option.bind (ref_Inside_f nf vars ([s.2.2.2.2.1])) fun r7 =>
     bif !r7.1 then
      some ((4, ()))
     else
      Option.bind (ref_Inside_f nf regs ([s.2.1])) fun r8 =>
      bif !r8.1 then
       some ((2, ()))
      else
       bif decide (s.1 ≥ 3) then
        Option.bind (ref_Inside_f nf regs ([s.2.2.1, s.2.2.2.1])) fun r9 =>
        bif !r9.1 then
         some ((2, ()))
        else
         some ((0, ()))
       else
        some ((0, ()))
    else
     Option.bind (ref_Inside_f nf regs ([s.2.1])) fun r10 =>
     bif !r10.1 then
      some ((2, ()))
     else
      bif decide (s.1 ≥ 3) then
       Option.bind (ref_Inside_f nf regs ([s.2.2.1, s.2.2.2.1])) fun r11 =>
       bif !r11.1 then
        some ((2, ()))
       else
        some ((0, ()))
      else
       some ((0, ()))
def ref_StepCheck_f (nf : Nat) (vars regs : Int) (s : Int × Int × Int × Int × Int × Unit) : Option (Int × Unit) := ref_StepCheck_p nf vars regs s
theorem ref_StepCheck_eq (nf : Nat) (vars regs : Int) (s : Int × Int × Int × Int × Int × Unit) : runF tab (ref_StepCheck_phi nf) ref_StepCheck_keep nf q12P q12R (resL ([]) Try.f66) (codeOf Try.f66) ⟨vars, regs, s, ()⟩ = ref_StepCheck_f nf vars regs s := by kernel_rfl
def ref_StepCheck_F (nf : Nat) (x : denPs q12P) : Option (denL q12R) := ref_StepCheck_f nf x.1 x.2.1 x.2.2.1
def ref_StepCheck_C (nf : Nat) : Contract := ⟨q12P, q12R, ref_StepCheck_F nf, []⟩
theorem ref_StepCheck_ok : FnOK Try.prog 66 := ⟨Try.f66, codeOf Try.f66, Try.func66, by kernel_rfl, by kernel_rfl⟩
theorem ref_StepCheck_holds (nf : Nat) : Contract.Holds Try.prog 66 (ref_StepCheck_C nf) :=
 fn_holds (Φ := ref_StepCheck_phi nf) (keep := ref_StepCheck_keep) (n := nf) ⟨tabs.1, tabs.2, (ctx_cons ref_Inside_ok (ref_Inside_holds nf) (ctx_cons ref_Value_ok (ref_Value_holds nf) ctx_nil)), mixed, bk_ok bkls rfl⟩ (fn := Try.f66) ⟨Try.func66, by kernel_rfl, by kernel_rfl, by kernel_rfl⟩ (fun x => ref_StepCheck_eq nf x.1 x.2.1 x.2.2.1)

/-! codemason codemasonref.ProgCheck -/
abbrev q13P : List PT := [.val (.int .i64) (.bor true false), .val (.sl (.pair (.sl (.pair (.int .i64) (.pair (.int .i64) (.pair (.int .i64) (.pair (.int .i64) (.pair (.int .i64) (.unit))))))) (.pair (.int .i64) (.pair (.int .i64) (.pair (.int .i64) (.unit)))))) (.bor true false)]
abbrev q13R : List (Ty × Md) := [(.int .i64, .bor false true)]
def ref_ProgCheck_phi (nf : Nat) : Nat → Option Contract := lookC [(55, ref_Inside_C nf), (66, ref_StepCheck_C nf)]
def ref_ProgCheck_keep : Nat → List Nat := lookK [(4, [0, 1, 9, 45, 46, 47, 51, 52, 53, 54]), (2, [0, 1, 45, 46, 47]), (0, [0, 1, 5, 13, 14, 15])]
def ref_ProgCheck_b0 (_ : Nat) (l2 : Int → TBlfn1 → Int → Option (Int × Unit)) (vars : Int) (p : TBlfn1) (g0 : Int → Int → Option (Int × Unit)) (many t15 : Int) : Option (Int × Unit) :=
 bif decide (t15 < (p.length : Int)) then
  bif inb t15 p.length then
   g0 (IntKind.i64.wrap (many + ((List.length (p.getD t15.toNat ([], 0, 0, 0, ())).1) : Int))) (IntKind.i64.wrap (t15 + 1))
  else
   none
 else
  bif decide (vars < 1) then
   some ((1, ()))
  else
   bif decide (vars > 6) then
    some ((1, ()))
   else
    bif decide ((p.length : Int) < 1) then
     some ((1, ()))
    else
     bif decide ((p.length : Int) > 8) then
      some ((1, ()))
     else
      bif decide (many > 20) then
       some ((1, ()))
      else
       l2 vars p 0
def ref_ProgCheck_b2 (_ : Nat) (l4 : Int → TBlfn1 → Int → List TZ01 × Int × Int × Int × Unit → Int → Option (Int × Unit)) (vars : Int) (p : TBlfn1) (_ : Int → Option (Int × Unit)) (t47 : Int) : Option (Int × Unit) :=
 bif decide (t47 < (p.length : Int)) then
  bif inb t47 p.length then
   l4 vars p t47 (p.getD t47.toNat ([], 0, 0, 0, ())) 0
  else
   none
 else
  some ((0, ()))
def ref_ProgCheck_b4 (nf : Nat) (vars : Int) (p : TBlfn1) (t47 : Int) (g2 : Int → Option (Int × Unit)) (g4 : List TZ01 × Int × Int × Int × Unit → Int → Option (Int × Unit)) (b : List TZ01 × Int × Int × Int × Unit) (t54 : Int) : Option (Int × Unit) :=
 bif decide (t54 < ((List.length (p.getD t47.toNat ([], 0, 0, 0, ())).1) : Int)) then
  bif inb t54 (List.length (p.getD t47.toNat ([], 0, 0, 0, ())).1) then
   Option.bind (ref_StepCheck_f nf vars vars (List.getD (p.getD t47.toNat ([], 0, 0, 0, ())).1 t54.toNat (0, 0, 0, 0, 0, ()))) fun r =>
   bif r.1 != 0 then
    some ((r.1, ()))
   else
    g4 b (IntKind.i64.wrap (t54 + 1))
  else
   none
 else
  bif b.2.1 != (-1) then
   Option.bind (ref_Inside_f nf vars ([b.2.1])) fun r2 =>
   bif !r2.1 then
    some ((2, ()))
   else
    bif b.2.1 == (-1) then
     bif b.2.2.1 != (-1) then
      Option.bind (ref_Inside_f nf ((p.length : Int)) ([b.2.2.1])) fun r3 =>
      bif !r3.1 then
       some ((3, ()))
      else
       bif decide (b.2.1 ≥ 0) then
        Option.bind (ref_Inside_f nf ((p.length : Int)) ([b.2.2.1, b.2.2.2.1])) fun r4 =>
        bif !r4.1 then
         some ((3, ()))
        else
         g2 (IntKind.i64.wrap (t47 + 1))
       else
        g2 (IntKind.i64.wrap (t47 + 1))
     else
      bif decide (b.2.1 ≥ 0) then
       Option.bind (ref_Inside_f nf ((p.length : Int)) ([b.2.2.1, b.2.2.2.1])) fun r5 =>
       bif !r5.1 then
        some ((3, ()))
       else
        g2 (IntKind.i64.wrap (t47 + 1))
      else
       g2 (IntKind.i64.wrap (t47 + 1))
    else
     bif decide (b.2.1 ≥ 0) then
      Option.bind (ref_Inside_f nf ((p.length : Int)) ([b.2.2.1, b.2.2.2.1])) fun r6 =>
      bif !r6.1 then
       some ((3, ()))
      else
       g2 (IntKind.i64.wrap (t47 + 1))
     else
      g2 (IntKind.i64.wrap (t47 + 1))
  else
   bif b.2.1 == (-1) then
    bif b.2.2.1 != (-1) then
     Option.bind (ref_Inside_f nf ((p.length : Int)) ([b.2.2.1])) fun r7 =>
     bif !r7.1 then
      some ((3, ()))
     else
      bif decide (b.2.1 ≥ 0) then
       Option.bind (ref_Inside_f nf ((p.length : Int)) ([b.2.2.1, b.2.2.2.1])) fun r8 =>
       bif !r8.1 then
        some ((3, ()))
       else
        g2 (IntKind.i64.wrap (t47 + 1))
      else
       g2 (IntKind.i64.wrap (t47 + 1))
    else
     bif decide (b.2.1 ≥ 0) then
      Option.bind (ref_Inside_f nf ((p.length : Int)) ([b.2.2.1, b.2.2.2.1])) fun r9 =>
      bif !r9.1 then
       some ((3, ()))
      else
       g2 (IntKind.i64.wrap (t47 + 1))
     else
      g2 (IntKind.i64.wrap (t47 + 1))
   else
    bif decide (b.2.1 ≥ 0) then
     Option.bind (ref_Inside_f nf ((p.length : Int)) ([b.2.2.1, b.2.2.2.1])) fun r10 =>
     bif !r10.1 then
      some ((3, ()))
     else
      g2 (IntKind.i64.wrap (t47 + 1))
    else
     g2 (IntKind.i64.wrap (t47 + 1))
def ref_ProgCheck_p (_ : Nat) (l0 : Int → TBlfn1 → Int → Int → Option (Int × Unit)) (vars : Int) (p : TBlfn1) : Option (Int × Unit) :=
 l0 vars p 0 0
def ref_ProgCheck_l4 (nf : Nat) (vars : Int) (p : TBlfn1) (t47 : Int) (g2 : Int → Option (Int × Unit)) : Nat → List TZ01 × Int × Int × Int × Unit → Int → Option (Int × Unit)
 | 0, _, _ => none
 | fu + 1, b, t54 => ref_ProgCheck_b4 nf vars p t47 g2 (ref_ProgCheck_l4 nf vars p t47 g2 fu) b t54
def ref_ProgCheck_l2 (nf : Nat) (vars : Int) (p : TBlfn1) : Nat → Int → Option (Int × Unit)
 | 0, _ => none
 | fu + 1, t47 => ref_ProgCheck_b2 nf (fun _ _ p2 v0 v1 => ref_ProgCheck_l4 nf vars p p2 (fun t47 => ref_ProgCheck_l2 nf vars p fu t47) nf v0 v1) vars p (ref_ProgCheck_l2 nf vars p fu) t47
def ref_ProgCheck_l0 (nf : Nat) (vars : Int) (p : TBlfn1) : Nat → Int → Int → Option (Int × Unit)
 | 0, _, _ => none
 | fu + 1, many, t15 => ref_ProgCheck_b0 nf (fun _ _ v0 => ref_ProgCheck_l2 nf vars p nf v0) vars p (ref_ProgCheck_l0 nf vars p fu) many t15
def ref_ProgCheck_f (nf : Nat) (vars : Int) (p : TBlfn1) : Option (Int × Unit) := ref_ProgCheck_p nf (fun p0 p1 v0 v1 => ref_ProgCheck_l0 nf p0 p1 nf v0 v1) vars p
def q13I (nf b : Nat) (L : LC (Int × Unit)) := LC.F tab (ref_ProgCheck_phi nf) (fun _ F => iter nf F) ref_ProgCheck_keep b L
def q13L0 (nf : Nat) : LC (Int × Unit) := theL (findL tab (ref_ProgCheck_phi nf) (fun _ F => iter nf F) ref_ProgCheck_keep 0 0 (codeOf Try.f20) (fin tab q13R (resL ([]) Try.f20)) (fun _ _ => none) (fin tab q13R (resL ([]) Try.f20)))
def q13m0 (vars : Int) (p : TBlfn1) (many t15 : Int) : St := ⟨fresh, [(0, vI1 vars), (1, AV.v (tI5fn1.sl.pair tI3fn1).sl mR1 p), (5, vI1 many), (13, AV.v (tI5fn1.sl.pair tI3fn1).sl mR1 p), (14, vI1 (p.length : Int)), (15, vI1 t15)]⟩
def q13L2 (nf : Nat) : LC (Int × Unit) := theL (findL tab (ref_ProgCheck_phi nf) (fun _ F => iter nf F) ref_ProgCheck_keep 2 0 (codeOf Try.f20) (fin tab q13R (resL ([]) Try.f20)) (fun _ _ => none) (fin tab q13R (resL ([]) Try.f20)))
def q13m2 (vars : Int) (p : TBlfn1) (t47 : Int) : St := ⟨fresh, [(0, vI1 vars), (1, AV.v (tI5fn1.sl.pair tI3fn1).sl mR1 p), (45, AV.v (tI5fn1.sl.pair tI3fn1).sl mR1 p), (46, vI1 (p.length : Int)), (47, vI1 t47)]⟩
def q13L4 (nf : Nat) (G2 : St → Option (Int × Unit)) : LC (Int × Unit) := theL (findL tab (ref_ProgCheck_phi nf) (fun _ F => iter nf F) ref_ProgCheck_keep 4 2 (q13L2 nf).c (fun st => norm (ref_ProgCheck_keep 2) st G2) (q13L2 nf).Kx (q13L2 nf).Kr)
def q13m4 (vars : Int) (p : TBlfn1) (t47 : Int) (b : List TZ01 × Int × Int × Int × Unit) (t54 : Int) : St := ⟨fresh, [(0, vI1 vars), (1, AV.v (tI5fn1.sl.pair tI3fn1).sl mR1 p), (9, AV.box 9 500009 (tI5fn1.sl.pair tI3fn1) mR1 b), (45, AV.v (tI5fn1.sl.pair tI3fn1).sl mR1 p), (46, vI1 (p.length : Int)), (47, vI1 t47), (51, AV.pl 9 9 [Stp.dr, Stp.fld 0]), (52, AV.v tI5fn1.sl mR1 (p.getD t47.toNat ([], 0, 0, 0, ())).1), (53, vI1 ((List.length (p.getD t47.toNat ([], 0, 0, 0, ())).1) : Int)), (54, vI1 t54)]⟩
theorem q13h4 (nf : Nat) (G2 : St → Option (Int × Unit)) (vars : Int) (p : TBlfn1) (t47 : Int) (fu : Nat) (b : List TZ01 × Int × Int × Int × Unit) (t54 : Int) : iter (fu + 1) (q13I nf 4 (q13L4 nf G2)) (q13m4 vars p t47 b t54) = ref_ProgCheck_b4 nf vars p t47 (fun t47 => G2 (q13m2 vars p t47)) (fun b t54 => iter fu (q13I nf 4 (q13L4 nf G2)) (q13m4 vars p t47 b t54)) b t54 := by kernel_rfl
theorem q13e4 (nf : Nat) (G2 : St → Option (Int × Unit)) (vars : Int) (p : TBlfn1) (t47 : Int) : ∀ (fu : Nat) (b : List TZ01 × Int × Int × Int × Unit) (t54 : Int), iter fu (q13I nf 4 (q13L4 nf G2)) (q13m4 vars p t47 b t54) = ref_ProgCheck_l4 nf vars p t47 (fun t47 => G2 (q13m2 vars p t47)) fu b t54 := by
 intro fu
 induction fu with
 | zero => intros; rfl
 | succ fu ih =>
  intro b t54
  rw [q13h4 nf G2 vars p t47 fu b t54]
  simp only [ih]
  rfl
theorem q13h2 (nf : Nat) (vars : Int) (p : TBlfn1) (fu : Nat) (t47 : Int) : iter (fu + 1) (q13I nf 2 (q13L2 nf)) (q13m2 vars p t47) = ref_ProgCheck_b2 nf (fun _ _ p2 v0 v1 => iter nf (q13I nf 4 (q13L4 nf (iter fu (q13I nf 2 (q13L2 nf))))) (q13m4 vars p p2 v0 v1)) vars p (fun t47 => iter fu (q13I nf 2 (q13L2 nf)) (q13m2 vars p t47)) t47 := by kernel_rfl
theorem q13e2 (nf : Nat) (vars : Int) (p : TBlfn1) : ∀ (fu : Nat) (t47 : Int), iter fu (q13I nf 2 (q13L2 nf)) (q13m2 vars p t47) = ref_ProgCheck_l2 nf vars p fu t47 := by
 intro fu
 induction fu with
 | zero => intros; rfl
 | succ fu ih =>
  intro t47
  rw [q13h2 nf vars p fu t47]
  simp only [ih, q13e4]
  rfl
theorem q13h0 (nf : Nat) (vars : Int) (p : TBlfn1) (fu : Nat) (many t15 : Int) : iter (fu + 1) (q13I nf 0 (q13L0 nf)) (q13m0 vars p many t15) = ref_ProgCheck_b0 nf (fun _ _ v0 => iter nf (q13I nf 2 (q13L2 nf)) (q13m2 vars p v0)) vars p (fun many t15 => iter fu (q13I nf 0 (q13L0 nf)) (q13m0 vars p many t15)) many t15 := by kernel_rfl
theorem q13e0 (nf : Nat) (vars : Int) (p : TBlfn1) : ∀ (fu : Nat) (many t15 : Int), iter fu (q13I nf 0 (q13L0 nf)) (q13m0 vars p many t15) = ref_ProgCheck_l0 nf vars p fu many t15 := by
 intro fu
 induction fu with
 | zero => intros; rfl
 | succ fu ih =>
  intro many t15
  rw [q13h0 nf vars p fu many t15]
  simp only [ih, q13e2]
  rfl
theorem ref_ProgCheck_eq (nf : Nat) (vars : Int) (p : TBlfn1) : runF tab (ref_ProgCheck_phi nf) ref_ProgCheck_keep nf q13P q13R (resL ([]) Try.f20) (codeOf Try.f20) ⟨vars, p, ()⟩ = ref_ProgCheck_f nf vars p := by
 refine Eq.trans (b := ref_ProgCheck_p nf (fun p0 p1 v0 v1 => iter nf (q13I nf 0 (q13L0 nf)) (q13m0 p0 p1 v0 v1)) vars p) (by kernel_rfl) ?_
 simp only [q13e0]
 rfl
def ref_ProgCheck_F (nf : Nat) (x : denPs q13P) : Option (denL q13R) := ref_ProgCheck_f nf x.1 x.2.1
def ref_ProgCheck_C (nf : Nat) : Contract := ⟨q13P, q13R, ref_ProgCheck_F nf, []⟩
theorem ref_ProgCheck_ok : FnOK Try.prog 20 := ⟨Try.f20, codeOf Try.f20, Try.func20, by kernel_rfl, by kernel_rfl⟩
theorem ref_ProgCheck_holds (nf : Nat) : Contract.Holds Try.prog 20 (ref_ProgCheck_C nf) :=
 fn_holds (Φ := ref_ProgCheck_phi nf) (keep := ref_ProgCheck_keep) (n := nf) ⟨tabs.1, tabs.2, (ctx_cons ref_Inside_ok (ref_Inside_holds nf) (ctx_cons ref_StepCheck_ok (ref_StepCheck_holds nf) ctx_nil)), mixed, bk_ok bkls rfl⟩ (fn := Try.f20) ⟨Try.func20, by kernel_rfl, by kernel_rfl, by kernel_rfl⟩ (fun x => ref_ProgCheck_eq nf x.1 x.2.1)

/-! codemason codemasonref.Op -/
abbrev q14P : List PT := [.val (.int .i64) (.bor true false), .val (.int .i64) (.bor true false), .val (.int .i64) (.bor true false)]
abbrev q14R : List (Ty × Md) := [(.int .i64, .bor false true)]
def ref_Op_phi (_ : Nat) : Nat → Option Contract := lookC []
def ref_Op_keep : Nat → List Nat := lookK []
def ref_Op_p (_ : Nat) (op a b : Int) : Option (Int × Unit) :=
 bif op == 3 then
  bif op == 4 then
   bif op == 5 then
    bif op == 6 then
     bif decide (a < b) then
      some ((Int.tmod 1 256, ()))
     else
      some (((IntKind.i64.wrap (a * b)).tmod 256, ()))
    else
     some (((IntKind.i64.wrap (a * b)).tmod 256, ()))
   else
    bif op == 6 then
     bif decide (a < b) then
      some ((Int.tmod 1 256, ()))
     else
      some (((IntKind.i64.wrap (IntKind.i64.wrap (a - b) + 256)).tmod 256, ()))
    else
     some (((IntKind.i64.wrap (IntKind.i64.wrap (a - b) + 256)).tmod 256, ()))
  else
   bif op == 5 then
    bif op == 6 then
     bif decide (a < b) then
      some ((Int.tmod 1 256, ()))
     else
      some (((IntKind.i64.wrap (a * b)).tmod 256, ()))
    else
     some (((IntKind.i64.wrap (a * b)).tmod 256, ()))
   else
    bif op == 6 then
     bif decide (a < b) then
      some ((Int.tmod 1 256, ()))
     else
      some (((IntKind.i64.wrap (a + b)).tmod 256, ()))
    else
     some (((IntKind.i64.wrap (a + b)).tmod 256, ()))
 else
  bif op == 4 then
   bif op == 5 then
    bif op == 6 then
     bif decide (a < b) then
      some ((Int.tmod 1 256, ()))
     else
      some (((IntKind.i64.wrap (a * b)).tmod 256, ()))
    else
     some (((IntKind.i64.wrap (a * b)).tmod 256, ()))
   else
    bif op == 6 then
     bif decide (a < b) then
      some ((Int.tmod 1 256, ()))
     else
      some (((IntKind.i64.wrap (IntKind.i64.wrap (a - b) + 256)).tmod 256, ()))
    else
     some (((IntKind.i64.wrap (IntKind.i64.wrap (a - b) + 256)).tmod 256, ()))
  else
   bif op == 5 then
    bif op == 6 then
     bif decide (a < b) then
      some ((Int.tmod 1 256, ()))
     else
      some (((IntKind.i64.wrap (a * b)).tmod 256, ()))
    else
     some (((IntKind.i64.wrap (a * b)).tmod 256, ()))
   else
    bif op == 6 then
     bif decide (a < b) then
      some ((Int.tmod 1 256, ()))
     else
      some ((Int.tmod 0 256, ()))
    else
     some ((Int.tmod 0 256, ()))
def ref_Op_f (nf : Nat) (op a b : Int) : Option (Int × Unit) := ref_Op_p nf op a b
theorem ref_Op_eq (nf : Nat) (op a b : Int) : runF tab (ref_Op_phi nf) ref_Op_keep nf q14P q14R (resL ([]) Try.f114) (codeOf Try.f114) ⟨op, a, b, ()⟩ = ref_Op_f nf op a b := by kernel_rfl
def ref_Op_F (nf : Nat) (x : denPs q14P) : Option (denL q14R) := ref_Op_f nf x.1 x.2.1 x.2.2.1
def ref_Op_C (nf : Nat) : Contract := ⟨q14P, q14R, ref_Op_F nf, []⟩
theorem ref_Op_ok : FnOK Try.prog 114 := ⟨Try.f114, codeOf Try.f114, Try.func114, by kernel_rfl, by kernel_rfl⟩
theorem ref_Op_holds (nf : Nat) : Contract.Holds Try.prog 114 (ref_Op_C nf) :=
 fn_holds (Φ := ref_Op_phi nf) (keep := ref_Op_keep) (n := nf) ⟨tabs.1, tabs.2, ctx_nil, mixed, bk_ok bkls rfl⟩ (fn := Try.f114) ⟨Try.func114, by kernel_rfl, by kernel_rfl, by kernel_rfl⟩ (fun x => ref_Op_eq nf x.1 x.2.1 x.2.2.1)

/-! codemason codemasonref.Doing -/
abbrev q15P : List PT := [.val (.sl (.pair (.int .i64) (.pair (.int .i64) (.pair (.int .i64) (.pair (.int .i64) (.pair (.int .i64) (.unit))))))) (.bor true false), .val (.sl (.int .i64)) (.bor true false)]
abbrev q15R : List (Ty × Md) := [(.sl (.int .i64), .own false (.bor false false))]
def ref_Doing_phi (nf : Nat) : Nat → Option Contract := lookC [(114, ref_Op_C nf)]
def ref_Doing_keep : Nat → List Nat := lookK [(0, [0, 1, 10, 11, 12, 13])]
def ref_Doing_b0 (nf : Nat) (code' : List TZ01) (g0 : List Int → Int → Option (List Int × Unit)) (v2 : List Int) (t13 : Int) : Option (List Int × Unit) :=
 bif decide (t13 < (code'.length : Int)) then
  bif inb t13 code'.length then
   bif (code'.getD t13.toNat (0, 0, 0, 0, 0, ())).1 == 2 then
    bif inb (code'.getD t13.toNat (0, 0, 0, 0, 0, ())).2.2.2.2.1 v2.length then
     bif decide ((code'.getD t13.toNat (0, 0, 0, 0, 0, ())).1 ≥ 3) then
      bif inb (code'.getD t13.toNat (0, 0, 0, 0, 0, ())).2.2.1 v2.length then
       bif inb (code'.getD t13.toNat (0, 0, 0, 0, 0, ())).2.2.2.1 v2.length then
        Option.bind (ref_Op_f nf ((code'.getD t13.toNat (0, 0, 0, 0, 0, ())).1) (v2.getD (Int.toNat (code'.getD t13.toNat (0, 0, 0, 0, 0, ())).2.2.1) 0) (v2.getD (Int.toNat (code'.getD t13.toNat (0, 0, 0, 0, 0, ())).2.2.2.1) 0)) fun r =>
        bif inb (code'.getD t13.toNat (0, 0, 0, 0, 0, ())).2.1 v2.length then
         g0 (v2.set (Int.toNat (code'.getD t13.toNat (0, 0, 0, 0, 0, ())).2.1) r.1) (IntKind.i64.wrap (t13 + 1))
        else
         none
       else
        none
      else
       none
     else
      bif inb (code'.getD t13.toNat (0, 0, 0, 0, 0, ())).2.1 v2.length then
       g0 (v2.set (Int.toNat (code'.getD t13.toNat (0, 0, 0, 0, 0, ())).2.1) (v2.getD (Int.toNat (code'.getD t13.toNat (0, 0, 0, 0, 0, ())).2.2.2.2.1) 0)) (IntKind.i64.wrap (t13 + 1))
      else
       none
    else
     none
   else
    bif decide ((code'.getD t13.toNat (0, 0, 0, 0, 0, ())).1 ≥ 3) then
     bif inb (code'.getD t13.toNat (0, 0, 0, 0, 0, ())).2.2.1 v2.length then
      bif inb (code'.getD t13.toNat (0, 0, 0, 0, 0, ())).2.2.2.1 v2.length then
       Option.bind (ref_Op_f nf ((code'.getD t13.toNat (0, 0, 0, 0, 0, ())).1) (v2.getD (Int.toNat (code'.getD t13.toNat (0, 0, 0, 0, 0, ())).2.2.1) 0) (v2.getD (Int.toNat (code'.getD t13.toNat (0, 0, 0, 0, 0, ())).2.2.2.1) 0)) fun r2 =>
       bif inb (code'.getD t13.toNat (0, 0, 0, 0, 0, ())).2.1 v2.length then
        g0 (v2.set (Int.toNat (code'.getD t13.toNat (0, 0, 0, 0, 0, ())).2.1) r2.1) (IntKind.i64.wrap (t13 + 1))
       else
        none
      else
       none
     else
      none
    else
     bif inb (code'.getD t13.toNat (0, 0, 0, 0, 0, ())).2.1 v2.length then
      g0 (v2.set (Int.toNat (code'.getD t13.toNat (0, 0, 0, 0, 0, ())).2.1) (code'.getD t13.toNat (0, 0, 0, 0, 0, ())).2.2.2.2.1) (IntKind.i64.wrap (t13 + 1))
     else
      none
  else
   none
 else
  some ((v2, ()))
def ref_Doing_p (_ : Nat) (l0 : List TZ01 → List Int → Int → Option (List Int × Unit)) (code' : List TZ01) (v : List Int) : Option (List Int × Unit) :=
 bif bimp false !v.isEmpty && ((List.length ([] : List Unit)) + v.length).ble lim then
  l0 code' ([] ++ v) 0
 else
  none
def ref_Doing_l0 (nf : Nat) (code' : List TZ01) : Nat → List Int → Int → Option (List Int × Unit)
 | 0, _, _ => none
 | fu + 1, v2, t13 => ref_Doing_b0 nf code' (ref_Doing_l0 nf code' fu) v2 t13
def ref_Doing_f (nf : Nat) (code' : List TZ01) (v : List Int) : Option (List Int × Unit) := ref_Doing_p nf (fun p0 v0 v1 => ref_Doing_l0 nf p0 nf v0 v1) code' v
def q15I (nf b : Nat) (L : LC (List Int × Unit)) := LC.F tab (ref_Doing_phi nf) (fun _ F => iter nf F) ref_Doing_keep b L
def q15L0 (nf : Nat) : LC (List Int × Unit) := theL (findL tab (ref_Doing_phi nf) (fun _ F => iter nf F) ref_Doing_keep 0 0 (codeOf Try.f70) (fin tab q15R (resL ([]) Try.f70)) (fun _ _ => none) (fin tab q15R (resL ([]) Try.f70)))
def q15m0 (code' : List TZ01) (v2 : List Int) (t13 : Int) : St := ⟨fresh, [(0, AV.v tI5fn1.sl mR1 code'), (1, AV.ow 500001 iT1.sl (Md.own false mL1) v2), (10, AV.dead), (11, AV.v tI5fn1.sl mR1 code'), (12, vI1 (code'.length : Int)), (13, vI1 t13)]⟩
theorem q15h0 (nf : Nat) (code' : List TZ01) (fu : Nat) (v2 : List Int) (t13 : Int) : iter (fu + 1) (q15I nf 0 (q15L0 nf)) (q15m0 code' v2 t13) = ref_Doing_b0 nf code' (fun v2 t13 => iter fu (q15I nf 0 (q15L0 nf)) (q15m0 code' v2 t13)) v2 t13 := by kernel_rfl
theorem q15e0 (nf : Nat) (code' : List TZ01) : ∀ (fu : Nat) (v2 : List Int) (t13 : Int), iter fu (q15I nf 0 (q15L0 nf)) (q15m0 code' v2 t13) = ref_Doing_l0 nf code' fu v2 t13 := by
 intro fu
 induction fu with
 | zero => intros; rfl
 | succ fu ih =>
  intro v2 t13
  rw [q15h0 nf code' fu v2 t13]
  simp only [ih]
  rfl
theorem ref_Doing_eq (nf : Nat) (code' : List TZ01) (v : List Int) : runF tab (ref_Doing_phi nf) ref_Doing_keep nf q15P q15R (resL ([]) Try.f70) (codeOf Try.f70) ⟨code', v, ()⟩ = ref_Doing_f nf code' v := by
 refine Eq.trans (b := ref_Doing_p nf (fun p0 v0 v1 => iter nf (q15I nf 0 (q15L0 nf)) (q15m0 p0 v0 v1)) code' v) (by kernel_rfl) ?_
 simp only [q15e0]
 rfl
def ref_Doing_F (nf : Nat) (x : denPs q15P) : Option (denL q15R) := ref_Doing_f nf x.1 x.2.1
def ref_Doing_C (nf : Nat) : Contract := ⟨q15P, q15R, ref_Doing_F nf, []⟩
theorem ref_Doing_ok : FnOK Try.prog 70 := ⟨Try.f70, codeOf Try.f70, Try.func70, by kernel_rfl, by kernel_rfl⟩
theorem ref_Doing_holds (nf : Nat) : Contract.Holds Try.prog 70 (ref_Doing_C nf) :=
 fn_holds (Φ := ref_Doing_phi nf) (keep := ref_Doing_keep) (n := nf) ⟨tabs.1, tabs.2, (ctx_cons ref_Op_ok (ref_Op_holds nf) ctx_nil), mixed, bk_ok bkls rfl⟩ (fn := Try.f70) ⟨Try.func70, by kernel_rfl, by kernel_rfl, by kernel_rfl⟩ (fun x => ref_Doing_eq nf x.1 x.2.1)

/-! codemason codemasonref.Goes -/
abbrev q16P : List PT := [.val (.sl (.pair (.sl (.pair (.int .i64) (.pair (.int .i64) (.pair (.int .i64) (.pair (.int .i64) (.pair (.int .i64) (.unit))))))) (.pair (.int .i64) (.pair (.int .i64) (.pair (.int .i64) (.unit)))))) (.bor true false), .val (.sl (.int .i64)) (.bor true false), .val (.int .i64) (.bor true false)]
abbrev q16R : List (Ty × Md) := [(.sl (.int .i64), .own false (.bor false false)), (.sl (.int .i64), .own false (.bor false false)), (.bool, .bor false true)]
def ref_Goes_phi (nf : Nat) : Nat → Option Contract := lookC [(70, ref_Doing_C nf)]
def ref_Goes_keep : Nat → List Nat := lookK [(0, [0, 1, 2, 9, 10]), (1000000, [0])]
def ref_Goes_b0 (nf : Nat) (p : TBlfn1) (most : Int) (g0 : List Int → List Int → Int → Option (List Int × List Int × Bool × Unit)) (v2 was : List Int) (at' : Int) : Option (List Int × List Int × Bool × Unit) :=
 bif at' != (-1) then
  bif decide ((was.length : Int) ≥ most) then
   some (([], [], false, ()))
  else
   bif bimp false ![at'].isEmpty && (was.length + [at'].length).ble lim then
    bif inb at' p.length then
     Option.bind (ref_Doing_f nf ((p.getD at'.toNat ([], 0, 0, 0, ())).1) v2) fun r2 =>
     bif inb at' p.length then
      bif decide ((p.getD at'.toNat ([], 0, 0, 0, ())).2.1 ≥ 0) then
       bif inb at' p.length then
        bif inb (p.getD at'.toNat ([], 0, 0, 0, ())).2.1 (List.length r2.1) then
         bif List.getD r2.1 (Int.toNat (p.getD at'.toNat ([], 0, 0, 0, ())).2.1) 0 == 0 then
          bif inb at' p.length then
           g0 r2.1 (was ++ [at']) ((p.getD at'.toNat ([], 0, 0, 0, ())).2.2.2.1)
          else
           none
         else
          bif inb at' p.length then
           g0 r2.1 (was ++ [at']) ((p.getD at'.toNat ([], 0, 0, 0, ())).2.2.1)
          else
           none
        else
         none
       else
        none
      else
       bif inb at' p.length then
        g0 r2.1 (was ++ [at']) ((p.getD at'.toNat ([], 0, 0, 0, ())).2.2.1)
       else
        none
     else
      none
    else
     none
   else
    none
 else
  some ((v2, was, true, ()))
def ref_Goes_p (nf : Nat) (l0 : TBlfn1 → Int → List Int → List Int → Int → Option (List Int × List Int × Bool × Unit)) (p : TBlfn1) (v : List Int) (most : Int) : Option (List Int × List Int × Bool × Unit) :=
 bif decide (((List.length ([] : List Unit)) : Int) ≥ most) then
  some (([], [], false, ()))
 else
  bif inb 0 p.length then
   Option.bind (ref_Doing_f nf ((p.getD 0 ([], 0, 0, 0, ())).1) v) fun r =>
   bif inb 0 p.length then
    bif decide ((p.getD 0 ([], 0, 0, 0, ())).2.1 ≥ 0) then
     bif inb 0 p.length then
      bif inb (p.getD 0 ([], 0, 0, 0, ())).2.1 (List.length r.1) then
       bif List.getD r.1 (Int.toNat (p.getD 0 ([], 0, 0, 0, ())).2.1) 0 == 0 then
        bif inb 0 p.length then
         l0 p most r.1 ([] ++ [0]) ((p.getD 0 ([], 0, 0, 0, ())).2.2.2.1)
        else
         none
       else
        bif inb 0 p.length then
         l0 p most r.1 ([] ++ [0]) ((p.getD 0 ([], 0, 0, 0, ())).2.2.1)
        else
         none
      else
       none
     else
      none
    else
     bif inb 0 p.length then
      l0 p most r.1 ([] ++ [0]) ((p.getD 0 ([], 0, 0, 0, ())).2.2.1)
     else
      none
   else
    none
  else
   none
def ref_Goes_l0 (nf : Nat) (p : TBlfn1) (most : Int) : Nat → List Int → List Int → Int → Option (List Int × List Int × Bool × Unit)
 | 0, _, _, _ => none
 | fu + 1, v2, was, at' => ref_Goes_b0 nf p most (ref_Goes_l0 nf p most fu) v2 was at'
def ref_Goes_f (nf : Nat) (p : TBlfn1) (v : List Int) (most : Int) : Option (List Int × List Int × Bool × Unit) := ref_Goes_p nf (fun p0 p1 v0 v1 v2 => ref_Goes_l0 nf p0 p1 nf v0 v1 v2) p v most
def q16I (nf b : Nat) (L : LC (List Int × List Int × Bool × Unit)) := LC.F tab (ref_Goes_phi nf) (fun _ F => iter nf F) ref_Goes_keep b L
def q16L0 (nf : Nat) : LC (List Int × List Int × Bool × Unit) := theL (findL tab (ref_Goes_phi nf) (fun _ F => iter nf F) ref_Goes_keep 0 0 (codeOf Try.f26) (fin tab q16R (resL ([]) Try.f26)) (fun _ _ => none) (fin tab q16R (resL ([]) Try.f26)))
def q16m0 (p : TBlfn1) (most : Int) (v2 was : List Int) (at' : Int) : St := ⟨fresh, [(0, AV.v (tI5fn1.sl.pair tI3fn1).sl mR1 p), (1, AV.ow 500001 iT1.sl (Md.own false mL1) v2), (2, vI1 most), (9, AV.ow 500009 iT1.sl (Md.own false mL1) was), (10, vI1 at')]⟩
theorem q16h0 (nf : Nat) (p : TBlfn1) (most : Int) (fu : Nat) (v2 was : List Int) (at' : Int) : iter (fu + 1) (q16I nf 0 (q16L0 nf)) (q16m0 p most v2 was at') = ref_Goes_b0 nf p most (fun v2 was at' => iter fu (q16I nf 0 (q16L0 nf)) (q16m0 p most v2 was at')) v2 was at' := by kernel_rfl
theorem q16e0 (nf : Nat) (p : TBlfn1) (most : Int) : ∀ (fu : Nat) (v2 was : List Int) (at' : Int), iter fu (q16I nf 0 (q16L0 nf)) (q16m0 p most v2 was at') = ref_Goes_l0 nf p most fu v2 was at' := by
 intro fu
 induction fu with
 | zero => intros; rfl
 | succ fu ih =>
  intro v2 was at'
  rw [q16h0 nf p most fu v2 was at']
  simp only [ih]
  rfl
theorem ref_Goes_eq (nf : Nat) (p : TBlfn1) (v : List Int) (most : Int) : runF tab (ref_Goes_phi nf) ref_Goes_keep nf q16P q16R (resL ([]) Try.f26) (codeOf Try.f26) ⟨p, v, most, ()⟩ = ref_Goes_f nf p v most := by
 refine Eq.trans (b := ref_Goes_p nf (fun p0 p1 v0 v1 v2 => iter nf (q16I nf 0 (q16L0 nf)) (q16m0 p0 p1 v0 v1 v2)) p v most) (by kernel_rfl) ?_
 simp only [q16e0]
 rfl
def ref_Goes_F (nf : Nat) (x : denPs q16P) : Option (denL q16R) := ref_Goes_f nf x.1 x.2.1 x.2.2.1
def ref_Goes_C (nf : Nat) : Contract := ⟨q16P, q16R, ref_Goes_F nf, []⟩
theorem ref_Goes_ok : FnOK Try.prog 26 := ⟨Try.f26, codeOf Try.f26, Try.func26, by kernel_rfl, by kernel_rfl⟩
theorem ref_Goes_holds (nf : Nat) : Contract.Holds Try.prog 26 (ref_Goes_C nf) :=
 fn_holds (Φ := ref_Goes_phi nf) (keep := ref_Goes_keep) (n := nf) ⟨tabs.1, tabs.2, (ctx_cons ref_Doing_ok (ref_Doing_holds nf) ctx_nil), mixed, bk_ok bkls rfl⟩ (fn := Try.f26) ⟨Try.func26, by kernel_rfl, by kernel_rfl, by kernel_rfl⟩ (fun x => ref_Goes_eq nf x.1 x.2.1 x.2.2.1)

/-! codemason codemasonref.Ints -/
abbrev q17P : List PT := [.val (.sl (.int .i64)) (.bor true false), .val (.sl (.int .i64)) (.bor true false)]
abbrev q17R : List (Ty × Md) := [(.bool, .bor false true)]
def ref_Ints_phi (_ : Nat) : Nat → Option Contract := lookC []
def ref_Ints_keep : Nat → List Nat := lookK [(0, [0, 1, 5])]
def ref_Ints_b0 (_ : Nat) (a b : List Int) (g0 : Int → Option (Bool × Unit)) (i : Int) : Option (Bool × Unit) :=
 bif decide (i < (a.length : Int)) then
  bif inb i a.length then
   bif inb i b.length then
    bif a.getD i.toNat 0 != b.getD i.toNat 0 then
     some ((false, ()))
    else
     g0 (IntKind.i64.wrap (i + 1))
   else
    none
  else
   none
 else
  some ((true, ()))
def ref_Ints_p (_ : Nat) (l0 : List Int → List Int → Int → Option (Bool × Unit)) (a b : List Int) : Option (Bool × Unit) :=
 bif (a.length : Int) != (b.length : Int) then
  some ((false, ()))
 else
  l0 a b 0
def ref_Ints_l0 (nf : Nat) (a b : List Int) : Nat → Int → Option (Bool × Unit)
 | 0, _ => none
 | fu + 1, i => ref_Ints_b0 nf a b (ref_Ints_l0 nf a b fu) i
def ref_Ints_f (nf : Nat) (a b : List Int) : Option (Bool × Unit) := ref_Ints_p nf (fun p0 p1 v0 => ref_Ints_l0 nf p0 p1 nf v0) a b
def q17I (nf b : Nat) (L : LC (Bool × Unit)) := LC.F tab (ref_Ints_phi nf) (fun _ F => iter nf F) ref_Ints_keep b L
def q17L0 (nf : Nat) : LC (Bool × Unit) := theL (findL tab (ref_Ints_phi nf) (fun _ F => iter nf F) ref_Ints_keep 0 0 (codeOf Try.f27) (fin tab q17R (resL ([]) Try.f27)) (fun _ _ => none) (fin tab q17R (resL ([]) Try.f27)))
def q17m0 (a b : List Int) (i : Int) : St := ⟨fresh, [(0, AV.v iT1.sl mR1 a), (1, AV.v iT1.sl mR1 b), (5, vI1 i)]⟩
theorem q17h0 (nf : Nat) (a b : List Int) (fu : Nat) (i : Int) : iter (fu + 1) (q17I nf 0 (q17L0 nf)) (q17m0 a b i) = ref_Ints_b0 nf a b (fun i => iter fu (q17I nf 0 (q17L0 nf)) (q17m0 a b i)) i := by kernel_rfl
theorem q17e0 (nf : Nat) (a b : List Int) : ∀ (fu : Nat) (i : Int), iter fu (q17I nf 0 (q17L0 nf)) (q17m0 a b i) = ref_Ints_l0 nf a b fu i := by
 intro fu
 induction fu with
 | zero => intros; rfl
 | succ fu ih =>
  intro i
  rw [q17h0 nf a b fu i]
  simp only [ih]
  rfl
theorem ref_Ints_eq (nf : Nat) (a b : List Int) : runF tab (ref_Ints_phi nf) ref_Ints_keep nf q17P q17R (resL ([]) Try.f27) (codeOf Try.f27) ⟨a, b, ()⟩ = ref_Ints_f nf a b := by
 refine Eq.trans (b := ref_Ints_p nf (fun p0 p1 v0 => iter nf (q17I nf 0 (q17L0 nf)) (q17m0 p0 p1 v0)) a b) (by kernel_rfl) ?_
 simp only [q17e0]
 rfl
def ref_Ints_F (nf : Nat) (x : denPs q17P) : Option (denL q17R) := ref_Ints_f nf x.1 x.2.1
def ref_Ints_C (nf : Nat) : Contract := ⟨q17P, q17R, ref_Ints_F nf, []⟩
theorem ref_Ints_ok : FnOK Try.prog 27 := ⟨Try.f27, codeOf Try.f27, Try.func27, by kernel_rfl, by kernel_rfl⟩
theorem ref_Ints_holds (nf : Nat) : Contract.Holds Try.prog 27 (ref_Ints_C nf) :=
 fn_holds (Φ := ref_Ints_phi nf) (keep := ref_Ints_keep) (n := nf) ⟨tabs.1, tabs.2, ctx_nil, mixed, bk_ok bkls rfl⟩ (fn := Try.f27) ⟨Try.func27, by kernel_rfl, by kernel_rfl, by kernel_rfl⟩ (fun x => ref_Ints_eq nf x.1 x.2.1)

/-! codemason codemasonref.HaveCheck -/
abbrev q18P : List PT := [.val (.int .i64) (.bor true false), .val (.sl (.int .i64)) (.bor true false)]
abbrev q18R : List (Ty × Md) := [(.int .i64, .bor false true)]
def ref_HaveCheck_phi (nf : Nat) : Nat → Option Contract := lookC [(96, ref_Value_C nf)]
def ref_HaveCheck_keep : Nat → List Nat := lookK [(0, [1, 11, 12, 13])]
def ref_HaveCheck_b0 (nf : Nat) (have' : List Int) (g0 : Int → Option (Int × Unit)) (t13 : Int) : Option (Int × Unit) :=
 bif decide (t13 < (have'.length : Int)) then
  bif inb t13 have'.length then
   Option.bind (ref_Value_f nf (have'.getD t13.toNat 0)) fun r =>
   bif !r.1 then
    some ((4, ()))
   else
    g0 (IntKind.i64.wrap (t13 + 1))
  else
   none
 else
  some ((0, ()))
def ref_HaveCheck_p (_ : Nat) (l0 : List Int → Int → Option (Int × Unit)) (vars : Int) (have' : List Int) : Option (Int × Unit) :=
 bif (have'.length : Int) != vars then
  some ((3, ()))
 else
  l0 have' 0
def ref_HaveCheck_l0 (nf : Nat) (have' : List Int) : Nat → Int → Option (Int × Unit)
 | 0, _ => none
 | fu + 1, t13 => ref_HaveCheck_b0 nf have' (ref_HaveCheck_l0 nf have' fu) t13
def ref_HaveCheck_f (nf : Nat) (vars : Int) (have' : List Int) : Option (Int × Unit) := ref_HaveCheck_p nf (fun p0 v0 => ref_HaveCheck_l0 nf p0 nf v0) vars have'
def q18I (nf b : Nat) (L : LC (Int × Unit)) := LC.F tab (ref_HaveCheck_phi nf) (fun _ F => iter nf F) ref_HaveCheck_keep b L
def q18L0 (nf : Nat) : LC (Int × Unit) := theL (findL tab (ref_HaveCheck_phi nf) (fun _ F => iter nf F) ref_HaveCheck_keep 0 0 (codeOf Try.f50) (fin tab q18R (resL ([]) Try.f50)) (fun _ _ => none) (fin tab q18R (resL ([]) Try.f50)))
def q18m0 (have' : List Int) (t13 : Int) : St := ⟨fresh, [(1, AV.v iT1.sl mR1 have'), (11, AV.v iT1.sl mR1 have'), (12, vI1 (have'.length : Int)), (13, vI1 t13)]⟩
theorem q18h0 (nf : Nat) (have' : List Int) (fu : Nat) (t13 : Int) : iter (fu + 1) (q18I nf 0 (q18L0 nf)) (q18m0 have' t13) = ref_HaveCheck_b0 nf have' (fun t13 => iter fu (q18I nf 0 (q18L0 nf)) (q18m0 have' t13)) t13 := by kernel_rfl
theorem q18e0 (nf : Nat) (have' : List Int) : ∀ (fu : Nat) (t13 : Int), iter fu (q18I nf 0 (q18L0 nf)) (q18m0 have' t13) = ref_HaveCheck_l0 nf have' fu t13 := by
 intro fu
 induction fu with
 | zero => intros; rfl
 | succ fu ih =>
  intro t13
  rw [q18h0 nf have' fu t13]
  simp only [ih]
  rfl
theorem ref_HaveCheck_eq (nf : Nat) (vars : Int) (have' : List Int) : runF tab (ref_HaveCheck_phi nf) ref_HaveCheck_keep nf q18P q18R (resL ([]) Try.f50) (codeOf Try.f50) ⟨vars, have', ()⟩ = ref_HaveCheck_f nf vars have' := by
 refine Eq.trans (b := ref_HaveCheck_p nf (fun p0 v0 => iter nf (q18I nf 0 (q18L0 nf)) (q18m0 p0 v0)) vars have') (by kernel_rfl) ?_
 simp only [q18e0]
 rfl
def ref_HaveCheck_F (nf : Nat) (x : denPs q18P) : Option (denL q18R) := ref_HaveCheck_f nf x.1 x.2.1
def ref_HaveCheck_C (nf : Nat) : Contract := ⟨q18P, q18R, ref_HaveCheck_F nf, []⟩
theorem ref_HaveCheck_ok : FnOK Try.prog 50 := ⟨Try.f50, codeOf Try.f50, Try.func50, by kernel_rfl, by kernel_rfl⟩
theorem ref_HaveCheck_holds (nf : Nat) : Contract.Holds Try.prog 50 (ref_HaveCheck_C nf) :=
 fn_holds (Φ := ref_HaveCheck_phi nf) (keep := ref_HaveCheck_keep) (n := nf) ⟨tabs.1, tabs.2, (ctx_cons ref_Value_ok (ref_Value_holds nf) ctx_nil), mixed, bk_ok bkls rfl⟩ (fn := Try.f50) ⟨Try.func50, by kernel_rfl, by kernel_rfl, by kernel_rfl⟩ (fun x => ref_HaveCheck_eq nf x.1 x.2.1)

/-! codemason codemasonref.OrderSize -/
abbrev q19P : List PT := [.val (.int .u8) (.bor true false)]
abbrev q19R : List (Ty × Md) := [(.int .i64, .bor false true)]
def ref_OrderSize_phi (_ : Nat) : Nat → Option Contract := lookC []
def ref_OrderSize_keep : Nat → List Nat := lookK []
def ref_OrderSize_p (_ : Nat) (b : Int) : Option (Int × Unit) :=
 bif decide (IntKind.i64.wrap ((IntKind.i64.wrap b).tdiv 8) ≥ ([1, 2, 1, 1, 1, 1, 1, 1, 3, 3].length : Int)) then
  some ((0, ()))
 else
  bif decide (IntKind.i64.wrap ((IntKind.i64.wrap b).tdiv 8) ≥ 2) then
   bif decide (IntKind.i64.wrap ((IntKind.i64.wrap b).tdiv 8) ≤ 7) then
    bif decide ((IntKind.i64.wrap b).tmod 8 ≥ 6) then
     some ((0, ()))
    else
     bif inb (IntKind.i64.wrap ((IntKind.i64.wrap b).tdiv 8)) [1, 2, 1, 1, 1, 1, 1, 1, 3, 3].length then
      some (([1, 2, 1, 1, 1, 1, 1, 1, 3, 3].getD (IntKind.i64.wrap ((IntKind.i64.wrap b).tdiv 8)).toNat 0, ()))
     else
      none
   else
    bif IntKind.i64.wrap ((IntKind.i64.wrap b).tdiv 8) == 9 then
     bif decide ((IntKind.i64.wrap b).tmod 8 ≥ 6) then
      some ((0, ()))
     else
      bif inb (IntKind.i64.wrap ((IntKind.i64.wrap b).tdiv 8)) [1, 2, 1, 1, 1, 1, 1, 1, 3, 3].length then
       some (([1, 2, 1, 1, 1, 1, 1, 1, 3, 3].getD (IntKind.i64.wrap ((IntKind.i64.wrap b).tdiv 8)).toNat 0, ()))
      else
       none
    else
     bif inb (IntKind.i64.wrap ((IntKind.i64.wrap b).tdiv 8)) [1, 2, 1, 1, 1, 1, 1, 1, 3, 3].length then
      some (([1, 2, 1, 1, 1, 1, 1, 1, 3, 3].getD (IntKind.i64.wrap ((IntKind.i64.wrap b).tdiv 8)).toNat 0, ()))
     else
      none
  else
   bif IntKind.i64.wrap ((IntKind.i64.wrap b).tdiv 8) == 9 then
    bif decide ((IntKind.i64.wrap b).tmod 8 ≥ 6) then
     some ((0, ()))
    else
     bif inb (IntKind.i64.wrap ((IntKind.i64.wrap b).tdiv 8)) [1, 2, 1, 1, 1, 1, 1, 1, 3, 3].length then
      some (([1, 2, 1, 1, 1, 1, 1, 1, 3, 3].getD (IntKind.i64.wrap ((IntKind.i64.wrap b).tdiv 8)).toNat 0, ()))
     else
      none
   else
    bif inb (IntKind.i64.wrap ((IntKind.i64.wrap b).tdiv 8)) [1, 2, 1, 1, 1, 1, 1, 1, 3, 3].length then
     some (([1, 2, 1, 1, 1, 1, 1, 1, 3, 3].getD (IntKind.i64.wrap ((IntKind.i64.wrap b).tdiv 8)).toNat 0, ()))
    else
     none
def ref_OrderSize_f (nf : Nat) (b : Int) : Option (Int × Unit) := ref_OrderSize_p nf b
theorem ref_OrderSize_eq (nf : Nat) (b : Int) : runF tab (ref_OrderSize_phi nf) ref_OrderSize_keep nf q19P q19R (resL ([]) Try.f113) (codeOf Try.f113) ⟨b, ()⟩ = ref_OrderSize_f nf b := by kernel_rfl
def ref_OrderSize_F (nf : Nat) (x : denPs q19P) : Option (denL q19R) := ref_OrderSize_f nf x.1
def ref_OrderSize_C (nf : Nat) : Contract := ⟨q19P, q19R, ref_OrderSize_F nf, []⟩
theorem ref_OrderSize_ok : FnOK Try.prog 113 := ⟨Try.f113, codeOf Try.f113, Try.func113, by kernel_rfl, by kernel_rfl⟩
theorem ref_OrderSize_holds (nf : Nat) : Contract.Holds Try.prog 113 (ref_OrderSize_C nf) :=
 fn_holds (Φ := ref_OrderSize_phi nf) (keep := ref_OrderSize_keep) (n := nf) ⟨tabs.1, tabs.2, ctx_nil, mixed, bk_ok bkls rfl⟩ (fn := Try.f113) ⟨Try.func113, by kernel_rfl, by kernel_rfl, by kernel_rfl⟩ (fun x => ref_OrderSize_eq nf x.1)

/-! codemason codemasonref.Machine -/
abbrev q110P : List PT := [.val (.sl (.int .u8)) (.bor true false), .val (.sl (.int .i64)) (.bor true false)]
abbrev q110R : List (Ty × Md) := [(.sl (.int .i64), .own false (.bor false false)), (.int .i64, .bor false true)]
def ref_Machine_phi (nf : Nat) : Nat → Option Contract := lookC [(113, ref_OrderSize_C nf), (114, ref_Op_C nf)]
def ref_Machine_keep : Nat → List Nat := lookK [(2, [0, 6, 9, 10, 11, 17]), (0, [0, 1, 6, 17, 18, 19, 20])]
def ref_Machine_b0 (_ : Nat) (l2 : List Int → List Int → Int → Int → Int → Option (List Int × Int × Unit)) (code' have' : List Int) (g0 : List Int → Int → Option (List Int × Int × Unit)) (cells : List Int) (t20 : Int) : Option (List Int × Int × Unit) :=
 bif decide (t20 < (have'.length : Int)) then
  bif inb t20 have'.length then
   bif inb t20 cells.length then
    g0 (cells.set t20.toNat (have'.getD t20.toNat 0)) (IntKind.i64.wrap (t20 + 1))
   else
    none
  else
   none
 else
  l2 code' cells 0 0 0
def ref_Machine_b2 (nf : Nat) (code' : List Int) (g2 : List Int → Int → Int → Int → Option (List Int × Int × Unit)) (cells2 : List Int) (at' box k' : Int) : Option (List Int × Int × Unit) :=
 bif decide (k' < 20000) then
  bif decide (at' ≥ (code'.length : Int)) then
   some (([], 6, ()))
  else
   bif inb at' code'.length then
    Option.bind (ref_OrderSize_f nf (code'.getD at'.toNat 0)) fun r =>
    bif r.1 == 0 then
     some (([], 6, ()))
    else
     bif decide (IntKind.i64.wrap (at' + r.1) > (code'.length : Int)) then
      some (([], 6, ()))
     else
      bif inb at' code'.length then
       bif inb at' code'.length then
        bif r.1 == 3 then
         bif inb (IntKind.i64.wrap (at' + 1)) code'.length then
          bif inb (IntKind.i64.wrap (at' + 2)) code'.length then
           bif IntKind.i64.wrap ((IntKind.i64.wrap (code'.getD at'.toNat 0)).tdiv 8) == 0 then
            some ((cells2, 0, ()))
           else
            bif IntKind.i64.wrap ((IntKind.i64.wrap (code'.getD at'.toNat 0)).tdiv 8) == 1 then
             bif inb (IntKind.i64.wrap (at' + 1)) code'.length then
              g2 cells2 (IntKind.i64.wrap (at' + r.1)) (IntKind.i64.wrap (code'.getD (IntKind.i64.wrap (at' + 1)).toNat 0)) (IntKind.i64.wrap (k' + 1))
             else
              none
            else
             bif IntKind.i64.wrap ((IntKind.i64.wrap (code'.getD at'.toNat 0)).tdiv 8) == 2 then
              bif inb ((IntKind.i64.wrap (code'.getD at'.toNat 0)).tmod 8) cells2.length then
               g2 cells2 (IntKind.i64.wrap (at' + r.1)) (cells2.getD ((IntKind.i64.wrap (code'.getD at'.toNat 0)).tmod 8).toNat 0) (IntKind.i64.wrap (k' + 1))
              else
               none
             else
              bif IntKind.i64.wrap ((IntKind.i64.wrap (code'.getD at'.toNat 0)).tdiv 8) == 3 then
               bif inb ((IntKind.i64.wrap (code'.getD at'.toNat 0)).tmod 8) cells2.length then
                g2 (cells2.set ((IntKind.i64.wrap (code'.getD at'.toNat 0)).tmod 8).toNat box) (IntKind.i64.wrap (at' + r.1)) box (IntKind.i64.wrap (k' + 1))
               else
                none
              else
               bif IntKind.i64.wrap ((IntKind.i64.wrap (code'.getD at'.toNat 0)).tdiv 8) == 8 then
                g2 cells2 (IntKind.i64.wrap (IntKind.i64.wrap (code'.getD (IntKind.i64.wrap (at' + 1)).toNat 0) + IntKind.i64.wrap (256 * IntKind.i64.wrap (code'.getD (IntKind.i64.wrap (at' + 2)).toNat 0)))) box (IntKind.i64.wrap (k' + 1))
               else
                bif IntKind.i64.wrap ((IntKind.i64.wrap (code'.getD at'.toNat 0)).tdiv 8) == 9 then
                 bif inb ((IntKind.i64.wrap (code'.getD at'.toNat 0)).tmod 8) cells2.length then
                  bif cells2.getD ((IntKind.i64.wrap (code'.getD at'.toNat 0)).tmod 8).toNat 0 == 0 then
                   g2 cells2 (IntKind.i64.wrap (IntKind.i64.wrap (code'.getD (IntKind.i64.wrap (at' + 1)).toNat 0) + IntKind.i64.wrap (256 * IntKind.i64.wrap (code'.getD (IntKind.i64.wrap (at' + 2)).toNat 0)))) box (IntKind.i64.wrap (k' + 1))
                  else
                   g2 cells2 (IntKind.i64.wrap (at' + r.1)) box (IntKind.i64.wrap (k' + 1))
                 else
                  none
                else
                 bif inb ((IntKind.i64.wrap (code'.getD at'.toNat 0)).tmod 8) cells2.length then
                  Option.bind (ref_Op_f nf (IntKind.i64.wrap (IntKind.i64.wrap (3 + IntKind.i64.wrap ((IntKind.i64.wrap (code'.getD at'.toNat 0)).tdiv 8)) - 4)) box (cells2.getD ((IntKind.i64.wrap (code'.getD at'.toNat 0)).tmod 8).toNat 0)) fun r2 =>
                  g2 cells2 (IntKind.i64.wrap (at' + r.1)) r2.1 (IntKind.i64.wrap (k' + 1))
                 else
                  none
          else
           none
         else
          none
        else
         bif IntKind.i64.wrap ((IntKind.i64.wrap (code'.getD at'.toNat 0)).tdiv 8) == 0 then
          some ((cells2, 0, ()))
         else
          bif IntKind.i64.wrap ((IntKind.i64.wrap (code'.getD at'.toNat 0)).tdiv 8) == 1 then
           bif inb (IntKind.i64.wrap (at' + 1)) code'.length then
            g2 cells2 (IntKind.i64.wrap (at' + r.1)) (IntKind.i64.wrap (code'.getD (IntKind.i64.wrap (at' + 1)).toNat 0)) (IntKind.i64.wrap (k' + 1))
           else
            none
          else
           bif IntKind.i64.wrap ((IntKind.i64.wrap (code'.getD at'.toNat 0)).tdiv 8) == 2 then
            bif inb ((IntKind.i64.wrap (code'.getD at'.toNat 0)).tmod 8) cells2.length then
             g2 cells2 (IntKind.i64.wrap (at' + r.1)) (cells2.getD ((IntKind.i64.wrap (code'.getD at'.toNat 0)).tmod 8).toNat 0) (IntKind.i64.wrap (k' + 1))
            else
             none
           else
            bif IntKind.i64.wrap ((IntKind.i64.wrap (code'.getD at'.toNat 0)).tdiv 8) == 3 then
             bif inb ((IntKind.i64.wrap (code'.getD at'.toNat 0)).tmod 8) cells2.length then
              g2 (cells2.set ((IntKind.i64.wrap (code'.getD at'.toNat 0)).tmod 8).toNat box) (IntKind.i64.wrap (at' + r.1)) box (IntKind.i64.wrap (k' + 1))
             else
              none
            else
             bif IntKind.i64.wrap ((IntKind.i64.wrap (code'.getD at'.toNat 0)).tdiv 8) == 8 then
              g2 cells2 0 box (IntKind.i64.wrap (k' + 1))
             else
              bif IntKind.i64.wrap ((IntKind.i64.wrap (code'.getD at'.toNat 0)).tdiv 8) == 9 then
               bif inb ((IntKind.i64.wrap (code'.getD at'.toNat 0)).tmod 8) cells2.length then
                bif cells2.getD ((IntKind.i64.wrap (code'.getD at'.toNat 0)).tmod 8).toNat 0 == 0 then
                 g2 cells2 0 box (IntKind.i64.wrap (k' + 1))
                else
                 g2 cells2 (IntKind.i64.wrap (at' + r.1)) box (IntKind.i64.wrap (k' + 1))
               else
                none
              else
               bif inb ((IntKind.i64.wrap (code'.getD at'.toNat 0)).tmod 8) cells2.length then
                Option.bind (ref_Op_f nf (IntKind.i64.wrap (IntKind.i64.wrap (3 + IntKind.i64.wrap ((IntKind.i64.wrap (code'.getD at'.toNat 0)).tdiv 8)) - 4)) box (cells2.getD ((IntKind.i64.wrap (code'.getD at'.toNat 0)).tmod 8).toNat 0)) fun r3 =>
                g2 cells2 (IntKind.i64.wrap (at' + r.1)) r3.1 (IntKind.i64.wrap (k' + 1))
               else
                none
       else
        none
      else
       none
   else
    none
 else
  some (([], 7, ()))
def ref_Machine_p (_ : Nat) (l0 : List Int → List Int → List Int → Int → Option (List Int × Int × Unit)) (code' have' : List Int) : Option (List Int × Int × Unit) :=
 l0 code' have' (List.replicate 6 0) 0
def ref_Machine_l2 (nf : Nat) (code' : List Int) : Nat → List Int → Int → Int → Int → Option (List Int × Int × Unit)
 | 0, _, _, _, _ => none
 | fu + 1, cells2, at', box, k' => ref_Machine_b2 nf code' (ref_Machine_l2 nf code' fu) cells2 at' box k'
def ref_Machine_l0 (nf : Nat) (code' have' : List Int) : Nat → List Int → Int → Option (List Int × Int × Unit)
 | 0, _, _ => none
 | fu + 1, cells, t20 => ref_Machine_b0 nf (fun _ v0 v1 v2 v3 => ref_Machine_l2 nf code' nf v0 v1 v2 v3) code' have' (ref_Machine_l0 nf code' have' fu) cells t20
def ref_Machine_f (nf : Nat) (code' have' : List Int) : Option (List Int × Int × Unit) := ref_Machine_p nf (fun p0 p1 v0 v1 => ref_Machine_l0 nf p0 p1 nf v0 v1) code' have'
def q110I (nf b : Nat) (L : LC (List Int × Int × Unit)) := LC.F tab (ref_Machine_phi nf) (fun _ F => iter nf F) ref_Machine_keep b L
def q110L0 (nf : Nat) : LC (List Int × Int × Unit) := theL (findL tab (ref_Machine_phi nf) (fun _ F => iter nf F) ref_Machine_keep 0 0 (codeOf Try.f62) (fin tab q110R (resL ([]) Try.f62)) (fun _ _ => none) (fin tab q110R (resL ([]) Try.f62)))
def q110m0 (code' have' cells : List Int) (t20 : Int) : St := ⟨fresh, [(0, AV.v (Ty.int IntKind.u8).sl mR1 code'), (1, AV.v iT1.sl mR1 have'), (6, AV.ow 500006 iT1.sl (Md.own false mL1) cells), (17, AV.dead), (18, AV.v iT1.sl mR1 have'), (19, vI1 (have'.length : Int)), (20, vI1 t20)]⟩
def q110L2 (nf : Nat) : LC (List Int × Int × Unit) := theL (findL tab (ref_Machine_phi nf) (fun _ F => iter nf F) ref_Machine_keep 2 0 (codeOf Try.f62) (fin tab q110R (resL ([]) Try.f62)) (fun _ _ => none) (fin tab q110R (resL ([]) Try.f62)))
def q110m2 (code' cells2 : List Int) (at' box k' : Int) : St := ⟨fresh, [(0, AV.v (Ty.int IntKind.u8).sl mR1 code'), (6, AV.ow 500006 iT1.sl (Md.own false mL1) cells2), (9, vI1 at'), (10, vI1 box), (11, vI1 k'), (17, AV.dead)]⟩
theorem q110h2 (nf : Nat) (code' : List Int) (fu : Nat) (cells2 : List Int) (at' box k' : Int) : iter (fu + 1) (q110I nf 2 (q110L2 nf)) (q110m2 code' cells2 at' box k') = ref_Machine_b2 nf code' (fun cells2 at' box k' => iter fu (q110I nf 2 (q110L2 nf)) (q110m2 code' cells2 at' box k')) cells2 at' box k' := by kernel_rfl
theorem q110e2 (nf : Nat) (code' : List Int) : ∀ (fu : Nat) (cells2 : List Int) (at' box k' : Int), iter fu (q110I nf 2 (q110L2 nf)) (q110m2 code' cells2 at' box k') = ref_Machine_l2 nf code' fu cells2 at' box k' := by
 intro fu
 induction fu with
 | zero => intros; rfl
 | succ fu ih =>
  intro cells2 at' box k'
  rw [q110h2 nf code' fu cells2 at' box k']
  simp only [ih]
  rfl
theorem q110h0 (nf : Nat) (code' have' : List Int) (fu : Nat) (cells : List Int) (t20 : Int) : iter (fu + 1) (q110I nf 0 (q110L0 nf)) (q110m0 code' have' cells t20) = ref_Machine_b0 nf (fun _ v0 v1 v2 v3 => iter nf (q110I nf 2 (q110L2 nf)) (q110m2 code' v0 v1 v2 v3)) code' have' (fun cells t20 => iter fu (q110I nf 0 (q110L0 nf)) (q110m0 code' have' cells t20)) cells t20 := by kernel_rfl
theorem q110e0 (nf : Nat) (code' have' : List Int) : ∀ (fu : Nat) (cells : List Int) (t20 : Int), iter fu (q110I nf 0 (q110L0 nf)) (q110m0 code' have' cells t20) = ref_Machine_l0 nf code' have' fu cells t20 := by
 intro fu
 induction fu with
 | zero => intros; rfl
 | succ fu ih =>
  intro cells t20
  rw [q110h0 nf code' have' fu cells t20]
  simp only [ih, q110e2]
  rfl
theorem ref_Machine_eq (nf : Nat) (code' have' : List Int) : runF tab (ref_Machine_phi nf) ref_Machine_keep nf q110P q110R (resL ([]) Try.f62) (codeOf Try.f62) ⟨code', have', ()⟩ = ref_Machine_f nf code' have' := by
 refine Eq.trans (b := ref_Machine_p nf (fun p0 p1 v0 v1 => iter nf (q110I nf 0 (q110L0 nf)) (q110m0 p0 p1 v0 v1)) code' have') (by kernel_rfl) ?_
 simp only [q110e0]
 rfl
def ref_Machine_F (nf : Nat) (x : denPs q110P) : Option (denL q110R) := ref_Machine_f nf x.1 x.2.1
def ref_Machine_C (nf : Nat) : Contract := ⟨q110P, q110R, ref_Machine_F nf, []⟩
theorem ref_Machine_ok : FnOK Try.prog 62 := ⟨Try.f62, codeOf Try.f62, Try.func62, by kernel_rfl, by kernel_rfl⟩
theorem ref_Machine_holds (nf : Nat) : Contract.Holds Try.prog 62 (ref_Machine_C nf) :=
 fn_holds (Φ := ref_Machine_phi nf) (keep := ref_Machine_keep) (n := nf) ⟨tabs.1, tabs.2, (ctx_cons ref_OrderSize_ok (ref_OrderSize_holds nf) (ctx_cons ref_Op_ok (ref_Op_holds nf) ctx_nil)), mixed, bk_ok bkls rfl⟩ (fn := Try.f62) ⟨Try.func62, by kernel_rfl, by kernel_rfl, by kernel_rfl⟩ (fun x => ref_Machine_eq nf x.1 x.2.1)

/-! codemason block.step 1 -/
abbrev q111P : List PT := [.val (.int .i64) (.bor true false), .ptr (.int .i64) (.bor true false)]
abbrev q111R : List (Ty × Md) := [(.bool, .bor false true)]
def block_step_1_phi (_ : Nat) : Nat → Option Contract := lookC []
def block_step_1_keep : Nat → List Nat := lookK []
def block_step_1_p (_ : Nat) (i c1 : Int) : Option (Bool × Unit) :=
 bif decide (i ≥ 0) then
  some ((decide (i < c1), ()))
 else
  some ((false, ()))
def block_step_1_f (nf : Nat) (i c1 : Int) : Option (Bool × Unit) := block_step_1_p nf i c1
theorem block_step_1_eq (nf : Nat) (i c1 : Int) : runF tab (block_step_1_phi nf) block_step_1_keep nf q111P q111R (resL ([]) Try.f117) (codeOf Try.f117) ⟨i, c1, ()⟩ = block_step_1_f nf i c1 := by kernel_rfl
def block_step_1_F (nf : Nat) (x : denPs q111P) : Option (denL q111R) := block_step_1_f nf x.1 x.2.1
def block_step_1_C (nf : Nat) : Contract := ⟨q111P, q111R, block_step_1_F nf, []⟩
theorem block_step_1_ok : FnOK Try.prog 117 := ⟨Try.f117, codeOf Try.f117, Try.func117, by kernel_rfl, by kernel_rfl⟩
theorem block_step_1_holds (nf : Nat) : Contract.Holds Try.prog 117 (block_step_1_C nf) :=
 fn_holds (Φ := block_step_1_phi nf) (keep := block_step_1_keep) (n := nf) ⟨tabs.1, tabs.2, ctx_nil, mixed, bk_ok bkls rfl⟩ (fn := Try.f117) ⟨Try.func117, by kernel_rfl, by kernel_rfl, by kernel_rfl⟩ (fun x => block_step_1_eq nf x.1 x.2.1)

/-! codemason block.step -/
abbrev q112P : List PT := [.val (.int .i64) (.bor true false), .val (.pair (.int .i64) (.pair (.int .i64) (.pair (.int .i64) (.pair (.int .i64) (.pair (.int .i64) (.unit)))))) (.bor true false)]
abbrev q112R : List (Ty × Md) := [(.int .i64, .bor false true)]
def block_step_phi (nf : Nat) : Nat → Option Contract := lookC [(117, block_step_1_C nf)]
def block_step_keep : Nat → List Nat := lookK []
def block_step_p (nf : Nat) (vars : Int) (s : Int × Int × Int × Int × Int × Unit) : Option (Int × Unit) :=
 bif decide (s.1 < 1) then
  some ((6, ()))
 else
  bif decide (s.1 > 6) then
   some ((6, ()))
  else
   bif s.1 == 1 then
    bif decide (s.2.2.2.2.1 < 0) then
     some ((4, ()))
    else
     bif decide (s.2.2.2.2.1 > 255) then
      some ((4, ()))
     else
      bif s.1 == 2 then
       Option.bind (block_step_1_f nf s.2.2.2.2.1 vars) fun r =>
       bif !r.1 then
        some ((4, ()))
       else
        Option.bind (block_step_1_f nf s.2.1 vars) fun r2 =>
        bif !r2.1 then
         some ((2, ()))
        else
         bif decide (s.1 > 2) then
          Option.bind (block_step_1_f nf s.2.2.1 vars) fun r3 =>
          bif !r3.1 then
           some ((2, ()))
          else
           Option.bind (block_step_1_f nf s.2.2.2.1 vars) fun r4 =>
           bif !r4.1 then
            some ((2, ()))
           else
            some ((0, ()))
         else
          some ((0, ()))
      else
       Option.bind (block_step_1_f nf s.2.1 vars) fun r5 =>
       bif !r5.1 then
        some ((2, ()))
       else
        bif decide (s.1 > 2) then
         Option.bind (block_step_1_f nf s.2.2.1 vars) fun r6 =>
         bif !r6.1 then
          some ((2, ()))
         else
          Option.bind (block_step_1_f nf s.2.2.2.1 vars) fun r7 =>
          bif !r7.1 then
           some ((2, ()))
          else
           some ((0, ()))
        else
         some ((0, ()))
   else
    bif s.1 == 2 then
     Option.bind (block_step_1_f nf s.2.2.2.2.1 vars) fun r8 =>
     bif !r8.1 then
      some ((4, ()))
     else
      Option.bind (block_step_1_f nf s.2.1 vars) fun r9 =>
      bif !r9.1 then
       some ((2, ()))
      else
       bif decide (s.1 > 2) then
        Option.bind (block_step_1_f nf s.2.2.1 vars) fun r10 =>
        bif !r10.1 then
         some ((2, ()))
        else
         Option.bind (block_step_1_f nf s.2.2.2.1 vars) fun r11 =>
         bif !r11.1 then
          some ((2, ()))
         else
          some ((0, ()))
       else
        some ((0, ()))
    else
     Option.bind (block_step_1_f nf s.2.1 vars) fun r12 =>
     bif !r12.1 then
      some ((2, ()))
     else
      bif decide (s.1 > 2) then
       Option.bind (block_step_1_f nf s.2.2.1 vars) fun r13 =>
       bif !r13.1 then
        some ((2, ()))
       else
        Option.bind (block_step_1_f nf s.2.2.2.1 vars) fun r14 =>
        bif !r14.1 then
         some ((2, ()))
        else
         some ((0, ()))
      else
       some ((0, ()))
def block_step_f (nf : Nat) (vars : Int) (s : Int × Int × Int × Int × Int × Unit) : Option (Int × Unit) := block_step_p nf vars s
theorem block_step_eq (nf : Nat) (vars : Int) (s : Int × Int × Int × Int × Int × Unit) : runF tab (block_step_phi nf) block_step_keep nf q112P q112R (resL ([]) Try.f64) (codeOf Try.f64) ⟨vars, s, ()⟩ = block_step_f nf vars s := by kernel_rfl
def block_step_F (nf : Nat) (x : denPs q112P) : Option (denL q112R) := block_step_f nf x.1 x.2.1
def block_step_C (nf : Nat) : Contract := ⟨q112P, q112R, block_step_F nf, []⟩
theorem block_step_ok : FnOK Try.prog 64 := ⟨Try.f64, codeOf Try.f64, Try.func64, by kernel_rfl, by kernel_rfl⟩
theorem block_step_holds (nf : Nat) : Contract.Holds Try.prog 64 (block_step_C nf) :=
 fn_holds (Φ := block_step_phi nf) (keep := block_step_keep) (n := nf) ⟨tabs.1, tabs.2, (ctx_cons block_step_1_ok (block_step_1_holds nf) ctx_nil), mixed, bk_ok bkls rfl⟩ (fn := Try.f64) ⟨Try.func64, by kernel_rfl, by kernel_rfl, by kernel_rfl⟩ (fun x => block_step_eq nf x.1 x.2.1)

/-! codemason block.Check 1 -/
abbrev q113P : List PT := [.val (.int .i64) (.bor true false), .ptr (.sl (.pair (.sl (.pair (.int .i64) (.pair (.int .i64) (.pair (.int .i64) (.pair (.int .i64) (.pair (.int .i64) (.unit))))))) (.pair (.int .i64) (.pair (.int .i64) (.pair (.int .i64) (.unit)))))) (.bor true false)]
abbrev q113R : List (Ty × Md) := [(.bool, .bor false true)]
def block_Check_1_phi (_ : Nat) : Nat → Option Contract := lookC []
def block_Check_1_keep : Nat → List Nat := lookK []
def block_Check_1_p (_ : Nat) (i : Int) (c1 : TBlfn1) : Option (Bool × Unit) :=
 bif decide (i ≥ 0) then
  some ((decide (i < (c1.length : Int)), ()))
 else
  some ((false, ()))
def block_Check_1_f (nf : Nat) (i : Int) (c1 : TBlfn1) : Option (Bool × Unit) := block_Check_1_p nf i c1
theorem block_Check_1_eq (nf : Nat) (i : Int) (c1 : TBlfn1) : runF tab (block_Check_1_phi nf) block_Check_1_keep nf q113P q113R (resL ([]) Try.f65) (codeOf Try.f65) ⟨i, c1, ()⟩ = block_Check_1_f nf i c1 := by kernel_rfl
def block_Check_1_F (nf : Nat) (x : denPs q113P) : Option (denL q113R) := block_Check_1_f nf x.1 x.2.1
def block_Check_1_C (nf : Nat) : Contract := ⟨q113P, q113R, block_Check_1_F nf, []⟩
theorem block_Check_1_ok : FnOK Try.prog 65 := ⟨Try.f65, codeOf Try.f65, Try.func65, by kernel_rfl, by kernel_rfl⟩
theorem block_Check_1_holds (nf : Nat) : Contract.Holds Try.prog 65 (block_Check_1_C nf) :=
 fn_holds (Φ := block_Check_1_phi nf) (keep := block_Check_1_keep) (n := nf) ⟨tabs.1, tabs.2, ctx_nil, mixed, bk_ok bkls rfl⟩ (fn := Try.f65) ⟨Try.func65, by kernel_rfl, by kernel_rfl, by kernel_rfl⟩ (fun x => block_Check_1_eq nf x.1 x.2.1)

/-! codemason block.Check -/
abbrev q114P : List PT := [.val (.int .i64) (.bor true false), .val (.sl (.pair (.sl (.pair (.int .i64) (.pair (.int .i64) (.pair (.int .i64) (.pair (.int .i64) (.pair (.int .i64) (.unit))))))) (.pair (.int .i64) (.pair (.int .i64) (.pair (.int .i64) (.unit)))))) (.bor true false)]
abbrev q114R : List (Ty × Md) := [(.int .i64, .bor false true)]
def block_Check_phi (nf : Nat) : Nat → Option Contract := lookC [(64, block_step_C nf), (65, block_Check_1_C nf)]
def block_Check_keep : Nat → List Nat := lookK [(4, [0, 1, 3, 9, 46, 47, 48, 52, 53, 54, 55]), (2, [0, 1, 3, 46, 47, 48]), (0, [0, 1, 3, 5, 14, 15, 16])]
def block_Check_b0 (_ : Nat) (l2 : Int → TBlfn1 → TBlfn1 → TBlfn1 → Int → Option (Int × Unit)) (vars : Int) (p : TBlfn1) (g0 : TBlfn1 → Int → Int → Option (Int × Unit)) (p2 : TBlfn1) (many t16 : Int) : Option (Int × Unit) :=
 bif decide (t16 < (p.length : Int)) then
  bif inb t16 p.length then
   g0 p2 (IntKind.i64.wrap (many + ((List.length (p.getD t16.toNat ([], 0, 0, 0, ())).1) : Int))) (IntKind.i64.wrap (t16 + 1))
  else
   none
 else
  bif decide (vars < 1) then
   some ((1, ()))
  else
   bif decide (vars > 6) then
    some ((1, ()))
   else
    bif decide ((p2.length : Int) < 1) then
     some ((1, ()))
    else
     bif decide ((p2.length : Int) > 8) then
      some ((1, ()))
     else
      bif decide (many > 20) then
       some ((1, ()))
      else
       l2 vars p p2 p2 0
def block_Check_b2 (_ : Nat) (l4 : Int → TBlfn1 → TBlfn1 → Int → TBlfn1 → List TZ01 × Int × Int × Int × Unit → Int → Option (Int × Unit)) (vars : Int) (p p2 : TBlfn1) (_ : TBlfn1 → Int → Option (Int × Unit)) (p3 : TBlfn1) (t48 : Int) : Option (Int × Unit) :=
 bif decide (t48 < (p2.length : Int)) then
  bif inb t48 p2.length then
   l4 vars p p2 t48 p3 (p2.getD t48.toNat ([], 0, 0, 0, ())) 0
  else
   none
 else
  some ((0, ()))
def block_Check_b4 (nf : Nat) (vars : Int) (p p2 : TBlfn1) (t48 : Int) (g2 : TBlfn1 → Int → Option (Int × Unit)) (g4 : TBlfn1 → List TZ01 × Int × Int × Int × Unit → Int → Option (Int × Unit)) (p4 : TBlfn1) (b : List TZ01 × Int × Int × Int × Unit) (t55 : Int) : Option (Int × Unit) :=
 bif decide (t55 < ((List.length (p2.getD t48.toNat ([], 0, 0, 0, ())).1) : Int)) then
  bif inb t55 (List.length (p2.getD t48.toNat ([], 0, 0, 0, ())).1) then
   Option.bind (block_step_f nf vars (List.getD (p2.getD t48.toNat ([], 0, 0, 0, ())).1 t55.toNat (0, 0, 0, 0, 0, ()))) fun r =>
   bif r.1 != 0 then
    some ((r.1, ()))
   else
    g4 p4 b (IntKind.i64.wrap (t55 + 1))
  else
   none
 else
  bif decide (b.2.1 < (-1)) then
   some ((2, ()))
  else
   bif decide (b.2.1 ≥ vars) then
    some ((2, ()))
   else
    Option.bind (block_Check_1_f nf b.2.2.1 p4) fun r2 =>
    bif !r2.1 then
     bif b.2.2.1 != (-1) then
      some ((3, ()))
     else
      bif decide (b.2.1 ≥ 0) then
       some ((3, ()))
      else
       bif decide (b.2.1 ≥ 0) then
        Option.bind (block_Check_1_f nf b.2.2.2.1 p4) fun r3 =>
        bif !r3.1 then
         some ((3, ()))
        else
         g2 p4 (IntKind.i64.wrap (t48 + 1))
       else
        g2 p4 (IntKind.i64.wrap (t48 + 1))
    else
     bif decide (b.2.1 ≥ 0) then
      Option.bind (block_Check_1_f nf b.2.2.2.1 p4) fun r4 =>
      bif !r4.1 then
       some ((3, ()))
      else
       g2 p4 (IntKind.i64.wrap (t48 + 1))
     else
      g2 p4 (IntKind.i64.wrap (t48 + 1))
def block_Check_p (_ : Nat) (l0 : Int → TBlfn1 → TBlfn1 → Int → Int → Option (Int × Unit)) (vars : Int) (p : TBlfn1) : Option (Int × Unit) :=
 l0 vars p p 0 0
def block_Check_l4 (nf : Nat) (vars : Int) (p p2 : TBlfn1) (t48 : Int) (g2 : TBlfn1 → Int → Option (Int × Unit)) : Nat → TBlfn1 → List TZ01 × Int × Int × Int × Unit → Int → Option (Int × Unit)
 | 0, _, _, _ => none
 | fu + 1, p4, b, t55 => block_Check_b4 nf vars p p2 t48 g2 (block_Check_l4 nf vars p p2 t48 g2 fu) p4 b t55
def block_Check_l2 (nf : Nat) (vars : Int) (p p2 : TBlfn1) : Nat → TBlfn1 → Int → Option (Int × Unit)
 | 0, _, _ => none
 | fu + 1, p3, t48 => block_Check_b2 nf (fun _ _ _ p3 v0 v1 v2 => block_Check_l4 nf vars p p2 p3 (fun p3 t48 => block_Check_l2 nf vars p p2 fu p3 t48) nf v0 v1 v2) vars p p2 (block_Check_l2 nf vars p p2 fu) p3 t48
def block_Check_l0 (nf : Nat) (vars : Int) (p : TBlfn1) : Nat → TBlfn1 → Int → Int → Option (Int × Unit)
 | 0, _, _, _ => none
 | fu + 1, p2, many, t16 => block_Check_b0 nf (fun _ _ p2 v0 v1 => block_Check_l2 nf vars p p2 nf v0 v1) vars p (block_Check_l0 nf vars p fu) p2 many t16
def block_Check_f (nf : Nat) (vars : Int) (p : TBlfn1) : Option (Int × Unit) := block_Check_p nf (fun p0 p1 v0 v1 v2 => block_Check_l0 nf p0 p1 nf v0 v1 v2) vars p
def q114I (nf b : Nat) (L : LC (Int × Unit)) := LC.F tab (block_Check_phi nf) (fun _ F => iter nf F) block_Check_keep b L
def q114L0 (nf : Nat) : LC (Int × Unit) := theL (findL tab (block_Check_phi nf) (fun _ F => iter nf F) block_Check_keep 0 0 (codeOf Try.f19) (fin tab q114R (resL ([]) Try.f19)) (fun _ _ => none) (fin tab q114R (resL ([]) Try.f19)))
def q114m0 (vars : Int) (p p2 : TBlfn1) (many t16 : Int) : St := ⟨fresh, [(0, vI1 vars), (1, AV.v (tI5fn1.sl.pair tI3fn1).sl mR1 p), (3, AV.box 3 500003 (tI5fn1.sl.pair tI3fn1).sl mR1 p2), (5, vI1 many), (14, AV.v (tI5fn1.sl.pair tI3fn1).sl mR1 p), (15, vI1 (p.length : Int)), (16, vI1 t16)]⟩
def q114L2 (nf : Nat) : LC (Int × Unit) := theL (findL tab (block_Check_phi nf) (fun _ F => iter nf F) block_Check_keep 2 0 (codeOf Try.f19) (fin tab q114R (resL ([]) Try.f19)) (fun _ _ => none) (fin tab q114R (resL ([]) Try.f19)))
def q114m2 (vars : Int) (p p2 p3 : TBlfn1) (t48 : Int) : St := ⟨fresh, [(0, vI1 vars), (1, AV.v (tI5fn1.sl.pair tI3fn1).sl mR1 p), (3, AV.box 3 500003 (tI5fn1.sl.pair tI3fn1).sl mR1 p3), (46, AV.v (tI5fn1.sl.pair tI3fn1).sl mR1 p2), (47, vI1 (p2.length : Int)), (48, vI1 t48)]⟩
def q114L4 (nf : Nat) (G2 : St → Option (Int × Unit)) : LC (Int × Unit) := theL (findL tab (block_Check_phi nf) (fun _ F => iter nf F) block_Check_keep 4 2 (q114L2 nf).c (fun st => norm (block_Check_keep 2) st G2) (q114L2 nf).Kx (q114L2 nf).Kr)
def q114m4 (vars : Int) (p p2 : TBlfn1) (t48 : Int) (p4 : TBlfn1) (b : List TZ01 × Int × Int × Int × Unit) (t55 : Int) : St := ⟨fresh, [(0, vI1 vars), (1, AV.v (tI5fn1.sl.pair tI3fn1).sl mR1 p), (3, AV.box 3 500003 (tI5fn1.sl.pair tI3fn1).sl mR1 p4), (9, AV.box 9 500009 (tI5fn1.sl.pair tI3fn1) mR1 b), (46, AV.v (tI5fn1.sl.pair tI3fn1).sl mR1 p2), (47, vI1 (p2.length : Int)), (48, vI1 t48), (52, AV.pl 9 9 [Stp.dr, Stp.fld 0]), (53, AV.v tI5fn1.sl mR1 (p2.getD t48.toNat ([], 0, 0, 0, ())).1), (54, vI1 ((List.length (p2.getD t48.toNat ([], 0, 0, 0, ())).1) : Int)), (55, vI1 t55)]⟩
theorem q114h4 (nf : Nat) (G2 : St → Option (Int × Unit)) (vars : Int) (p p2 : TBlfn1) (t48 : Int) (fu : Nat) (p4 : TBlfn1) (b : List TZ01 × Int × Int × Int × Unit) (t55 : Int) : iter (fu + 1) (q114I nf 4 (q114L4 nf G2)) (q114m4 vars p p2 t48 p4 b t55) = block_Check_b4 nf vars p p2 t48 (fun p3 t48 => G2 (q114m2 vars p p2 p3 t48)) (fun p4 b t55 => iter fu (q114I nf 4 (q114L4 nf G2)) (q114m4 vars p p2 t48 p4 b t55)) p4 b t55 := by kernel_rfl
theorem q114e4 (nf : Nat) (G2 : St → Option (Int × Unit)) (vars : Int) (p p2 : TBlfn1) (t48 : Int) : ∀ (fu : Nat) (p4 : TBlfn1) (b : List TZ01 × Int × Int × Int × Unit) (t55 : Int), iter fu (q114I nf 4 (q114L4 nf G2)) (q114m4 vars p p2 t48 p4 b t55) = block_Check_l4 nf vars p p2 t48 (fun p3 t48 => G2 (q114m2 vars p p2 p3 t48)) fu p4 b t55 := by
 intro fu
 induction fu with
 | zero => intros; rfl
 | succ fu ih =>
  intro p4 b t55
  rw [q114h4 nf G2 vars p p2 t48 fu p4 b t55]
  simp only [ih]
  rfl
theorem q114h2 (nf : Nat) (vars : Int) (p p2 : TBlfn1) (fu : Nat) (p3 : TBlfn1) (t48 : Int) : iter (fu + 1) (q114I nf 2 (q114L2 nf)) (q114m2 vars p p2 p3 t48) = block_Check_b2 nf (fun _ _ _ p3 v0 v1 v2 => iter nf (q114I nf 4 (q114L4 nf (iter fu (q114I nf 2 (q114L2 nf))))) (q114m4 vars p p2 p3 v0 v1 v2)) vars p p2 (fun p3 t48 => iter fu (q114I nf 2 (q114L2 nf)) (q114m2 vars p p2 p3 t48)) p3 t48 := by kernel_rfl
theorem q114e2 (nf : Nat) (vars : Int) (p p2 : TBlfn1) : ∀ (fu : Nat) (p3 : TBlfn1) (t48 : Int), iter fu (q114I nf 2 (q114L2 nf)) (q114m2 vars p p2 p3 t48) = block_Check_l2 nf vars p p2 fu p3 t48 := by
 intro fu
 induction fu with
 | zero => intros; rfl
 | succ fu ih =>
  intro p3 t48
  rw [q114h2 nf vars p p2 fu p3 t48]
  simp only [ih, q114e4]
  rfl
theorem q114h0 (nf : Nat) (vars : Int) (p : TBlfn1) (fu : Nat) (p2 : TBlfn1) (many t16 : Int) : iter (fu + 1) (q114I nf 0 (q114L0 nf)) (q114m0 vars p p2 many t16) = block_Check_b0 nf (fun _ _ p2 v0 v1 => iter nf (q114I nf 2 (q114L2 nf)) (q114m2 vars p p2 v0 v1)) vars p (fun p2 many t16 => iter fu (q114I nf 0 (q114L0 nf)) (q114m0 vars p p2 many t16)) p2 many t16 := by kernel_rfl
theorem q114e0 (nf : Nat) (vars : Int) (p : TBlfn1) : ∀ (fu : Nat) (p2 : TBlfn1) (many t16 : Int), iter fu (q114I nf 0 (q114L0 nf)) (q114m0 vars p p2 many t16) = block_Check_l0 nf vars p fu p2 many t16 := by
 intro fu
 induction fu with
 | zero => intros; rfl
 | succ fu ih =>
  intro p2 many t16
  rw [q114h0 nf vars p fu p2 many t16]
  simp only [ih, q114e2]
  rfl
theorem block_Check_eq (nf : Nat) (vars : Int) (p : TBlfn1) : runF tab (block_Check_phi nf) block_Check_keep nf q114P q114R (resL ([]) Try.f19) (codeOf Try.f19) ⟨vars, p, ()⟩ = block_Check_f nf vars p := by
 refine Eq.trans (b := block_Check_p nf (fun p0 p1 v0 v1 v2 => iter nf (q114I nf 0 (q114L0 nf)) (q114m0 p0 p1 v0 v1 v2)) vars p) (by kernel_rfl) ?_
 simp only [q114e0]
 rfl
def block_Check_F (nf : Nat) (x : denPs q114P) : Option (denL q114R) := block_Check_f nf x.1 x.2.1
def block_Check_C (nf : Nat) : Contract := ⟨q114P, q114R, block_Check_F nf, []⟩
theorem block_Check_ok : FnOK Try.prog 19 := ⟨Try.f19, codeOf Try.f19, Try.func19, by kernel_rfl, by kernel_rfl⟩
theorem block_Check_holds (nf : Nat) : Contract.Holds Try.prog 19 (block_Check_C nf) :=
 fn_holds (Φ := block_Check_phi nf) (keep := block_Check_keep) (n := nf) ⟨tabs.1, tabs.2, (ctx_cons block_step_ok (block_step_holds nf) (ctx_cons block_Check_1_ok (block_Check_1_holds nf) ctx_nil)), mixed, bk_ok bkls rfl⟩ (fn := Try.f19) ⟨Try.func19, by kernel_rfl, by kernel_rfl, by kernel_rfl⟩ (fun x => block_Check_eq nf x.1 x.2.1)

/-! codemason mach.Code 1 -/
abbrev q115P : List PT := [.val (.int .u8) (.bor true false), .val (.int .i64) (.bor true false), .box (.mp (.int .i64) (.int .i64)) (.own true (.bor false false)), .box (.sl (.int .u8)) (.own false (.bor false true))]
abbrev q115R : List (Ty × Md) := [(.bx (.mp (.int .i64) (.int .i64)), .own false (.own true (.bor false false))), (.bx (.sl (.int .u8)), .own false (.own false (.bor false true)))]
def mach_Code_1_tab : Tab := ⟨lookT tyL, lookM ([(92, .own false (.bor false true))] ++ mdL), hasT [185], hasT [9, 10, 11], fun _ => none, lookB bkl⟩
theorem mach_Code_1_tabs : TabOK Try.prog mach_Code_1_tab ∧ EqOK Try.prog mach_Code_1_tab := tab_ok (by kernel_rfl) (by kernel_rfl)
def mach_Code_1_phi (_ : Nat) : Nat → Option Contract := lookC []
def mach_Code_1_keep : Nat → List Nat := lookK []
def mach_Code_1_p (_ : Nat) (order i : Int) (c2 : List (Int × Int)) (c3 : List Int) : Option (Option (List (Int × Int)) × Option (List Int) × Unit) :=
 bif ![order, 0, 0].isEmpty && (c3.length + [order, 0, 0].length).ble lim then
  some ((some (insM iT1 iT1 c2 (IntKind.i64.wrap ((c3.length : Int) + 1)) i), some (c3 ++ [order, 0, 0]), ()))
 else
  none
def mach_Code_1_f (nf : Nat) (order i : Int) (c2 : List (Int × Int)) (c3 : List Int) : Option (Option (List (Int × Int)) × Option (List Int) × Unit) := mach_Code_1_p nf order i c2 c3
theorem mach_Code_1_eq (nf : Nat) (order i : Int) (c2 : List (Int × Int)) (c3 : List Int) : runF mach_Code_1_tab (mach_Code_1_phi nf) mach_Code_1_keep nf q115P q115R (resL ([2, 3]) Try.f115) (codeOf Try.f115) ⟨order, i, c2, c3, ()⟩ = mach_Code_1_f nf order i c2 c3 := by kernel_rfl
def mach_Code_1_F (nf : Nat) (x : denPs q115P) : Option (denL q115R) := mach_Code_1_f nf x.1 x.2.1 x.2.2.1 x.2.2.2.1
def mach_Code_1_C (nf : Nat) : Contract := ⟨q115P, q115R, mach_Code_1_F nf, [2, 3]⟩
theorem mach_Code_1_ok : FnOK Try.prog 115 := ⟨Try.f115, codeOf Try.f115, Try.func115, by kernel_rfl, by kernel_rfl⟩
theorem mach_Code_1_holds (nf : Nat) : Contract.Holds Try.prog 115 (mach_Code_1_C nf) :=
 fn_holds (Φ := mach_Code_1_phi nf) (keep := mach_Code_1_keep) (n := nf) ⟨mach_Code_1_tabs.1, mach_Code_1_tabs.2, ctx_nil, mixed, bk_ok bkls rfl⟩ (fn := Try.f115) ⟨Try.func115, by kernel_rfl, by kernel_rfl, by kernel_rfl⟩ (fun x => mach_Code_1_eq nf x.1 x.2.1 x.2.2.1 x.2.2.2.1)

/-! codemason mach.step -/
abbrev q116P : List PT := [.val (.pair (.int .i64) (.pair (.int .i64) (.pair (.int .i64) (.pair (.int .i64) (.pair (.int .i64) (.unit)))))) (.bor true false)]
abbrev q116R : List (Ty × Md) := [(.sl (.int .u8), .own false (.bor false false))]
def mach_step_phi (_ : Nat) : Nat → Option Contract := lookC []
def mach_step_keep : Nat → List Nat := lookK []
def mach_step_p (_ : Nat) (s : Int × Int × Int × Int × Int × Unit) : Option (List Int × Unit) :=
 bif s.1 == 1 then
  some (([8, IntKind.u8.wrap s.2.2.2.2.1, IntKind.u8.wrap (IntKind.i64.wrap (24 + s.2.1))], ()))
 else
  bif s.1 == 2 then
   some (([IntKind.u8.wrap (IntKind.i64.wrap (16 + s.2.2.2.2.1)), IntKind.u8.wrap (IntKind.i64.wrap (24 + s.2.1))], ()))
  else
   some (([IntKind.u8.wrap (IntKind.i64.wrap (16 + s.2.2.1)), IntKind.u8.wrap (IntKind.i64.wrap (IntKind.i64.wrap (IntKind.i64.wrap (IntKind.i64.wrap (s.1 - 3) + 4) * 8) + s.2.2.2.1)), IntKind.u8.wrap (IntKind.i64.wrap (24 + s.2.1))], ()))
def mach_step_f (nf : Nat) (s : Int × Int × Int × Int × Int × Unit) : Option (List Int × Unit) := mach_step_p nf s
theorem mach_step_eq (nf : Nat) (s : Int × Int × Int × Int × Int × Unit) : runF tab (mach_step_phi nf) mach_step_keep nf q116P q116R (resL ([]) Try.f116) (codeOf Try.f116) ⟨s, ()⟩ = mach_step_f nf s := by kernel_rfl
def mach_step_F (nf : Nat) (x : denPs q116P) : Option (denL q116R) := mach_step_f nf x.1
def mach_step_C (nf : Nat) : Contract := ⟨q116P, q116R, mach_step_F nf, []⟩
theorem mach_step_ok : FnOK Try.prog 116 := ⟨Try.f116, codeOf Try.f116, Try.func116, by kernel_rfl, by kernel_rfl⟩
theorem mach_step_holds (nf : Nat) : Contract.Holds Try.prog 116 (mach_step_C nf) :=
 fn_holds (Φ := mach_step_phi nf) (keep := mach_step_keep) (n := nf) ⟨tabs.1, tabs.2, ctx_nil, mixed, bk_ok bkls rfl⟩ (fn := Try.f116) ⟨Try.func116, by kernel_rfl, by kernel_rfl, by kernel_rfl⟩ (fun x => mach_step_eq nf x.1)

/-! codemason mach.Code -/
abbrev q117P : List PT := [.val (.int .i64) (.bor true false), .val (.sl (.pair (.sl (.pair (.int .i64) (.pair (.int .i64) (.pair (.int .i64) (.pair (.int .i64) (.pair (.int .i64) (.unit))))))) (.pair (.int .i64) (.pair (.int .i64) (.pair (.int .i64) (.unit)))))) (.bor true false)]
abbrev q117R : List (Ty × Md) := [(.sl (.int .u8), .own false (.bor false false)), (.int .i64, .bor false true)]
def mach_Code_tab : Tab := ⟨lookT tyL, lookM ([(92, .own false (.bor false true))] ++ mdL), hasT [185], hasT [9, 10, 11], fun _ => none, lookB bkl⟩
theorem mach_Code_tabs : TabOK Try.prog mach_Code_tab ∧ EqOK Try.prog mach_Code_tab := tab_ok (by kernel_rfl) (by kernel_rfl)
def mach_Code_phi (nf : Nat) : Nat → Option Contract := lookC [(19, block_Check_C nf), (115, mach_Code_1_C nf), (116, mach_step_C nf)]
def mach_Code_keep : Nat → List Nat := lookK [(5, [7, 8, 9, 36, 78, 79]), (2, [1, 7, 8, 9, 10, 11, 12, 24, 25, 26, 27, 36, 37, 38, 39, 40]), (0, [1, 7, 8, 9, 10, 24, 25, 26, 27, 36])]
def mach_Code_b0 (_ : Nat) (l2 : TBlfn1 → Int → List Int → List Int → List (Int × Int) → List TZ01 × Int × Int × Int × Unit → Int → Option (List Int × Int × Unit)) (l5 : List Int → List Int → List (Int × Int) → List (Int × Int) → Option (List Int × Int × Unit)) (p : TBlfn1) (_ : List Int → List Int → List (Int × Int) → Int → Option (List Int × Int × Unit)) (code' begins : List Int) (want : List (Int × Int)) (t27 : Int) : Option (List Int × Int × Unit) :=
 bif decide (t27 < (p.length : Int)) then
  bif inb t27 p.length then
   bif bimp false ![(code'.length : Int)].isEmpty && (begins.length + [(code'.length : Int)].length).ble lim then
    l2 p t27 code' (begins ++ [(code'.length : Int)]) want (p.getD t27.toNat ([], 0, 0, 0, ())) 0
   else
    none
  else
   none
 else
  l5 code' begins want want
def mach_Code_b2 (nf : Nat) (p : TBlfn1) (t27 : Int) (g0 : List Int → List Int → List (Int × Int) → Int → Option (List Int × Int × Unit)) (g2 : List Int → List Int → List (Int × Int) → List TZ01 × Int × Int × Int × Unit → Int → Option (List Int × Int × Unit)) (code'2 begins2 : List Int) (want2 : List (Int × Int)) (b : List TZ01 × Int × Int × Int × Unit) (t40 : Int) : Option (List Int × Int × Unit) :=
 bif decide (t40 < ((List.length (p.getD t27.toNat ([], 0, 0, 0, ())).1) : Int)) then
  bif inb t40 (List.length (p.getD t27.toNat ([], 0, 0, 0, ())).1) then
   Option.bind (mach_step_f nf (List.getD (p.getD t27.toNat ([], 0, 0, 0, ())).1 t40.toNat (0, 0, 0, 0, 0, ()))) fun r2 =>
   bif !List.isEmpty r2.1 && (code'2.length + List.length r2.1).ble lim then
    g2 (code'2 ++ r2.1) begins2 want2 b (IntKind.i64.wrap (t40 + 1))
   else
    none
  else
   none
 else
  bif decide (b.2.1 ≥ 0) then
   Option.bind (mach_Code_1_f nf (IntKind.u8.wrap (IntKind.i64.wrap (72 + b.2.1))) b.2.2.2.1 want2 code'2) fun r3 =>
   Option.bind r3.1 fun r4 =>
   Option.bind r3.2.1 fun r5 =>
   bif decide (b.2.2.1 < 0) then
    bif ![0].isEmpty && (List.length r5 + [0].length).ble lim then
     g0 (r5 ++ [0]) begins2 r4 (IntKind.i64.wrap (t27 + 1))
    else
     none
   else
    bif b.2.2.1 != IntKind.i64.wrap (t27 + 1) then
     Option.bind (mach_Code_1_f nf 64 b.2.2.1 r4 r5) fun r6 =>
     Option.bind r6.1 fun r7 =>
     Option.bind r6.2.1 fun r8 =>
     g0 r8 begins2 r7 (IntKind.i64.wrap (t27 + 1))
    else
     g0 r5 begins2 r4 (IntKind.i64.wrap (t27 + 1))
  else
   bif decide (b.2.2.1 < 0) then
    bif ![0].isEmpty && (code'2.length + [0].length).ble lim then
     g0 (code'2 ++ [0]) begins2 want2 (IntKind.i64.wrap (t27 + 1))
    else
     none
   else
    bif b.2.2.1 != IntKind.i64.wrap (t27 + 1) then
     Option.bind (mach_Code_1_f nf 64 b.2.2.1 want2 code'2) fun r9 =>
     Option.bind r9.1 fun r10 =>
     Option.bind r9.2.1 fun r11 =>
     g0 r11 begins2 r10 (IntKind.i64.wrap (t27 + 1))
    else
     g0 code'2 begins2 want2 (IntKind.i64.wrap (t27 + 1))
def mach_Code_b5 (_ : Nat) (g5 : List Int → List Int → List (Int × Int) → List (Int × Int) → Option (List Int × Int × Unit)) (code'3 begins3 : List Int) (want3 t79 : List (Int × Int)) : Option (List Int × Int × Unit) :=
 bif t79.isEmpty then
  some ((code'3, 0, ()))
 else
  agree t79.length fun i =>
  bif inb (t79.getD i (0, 0)).2 begins3.length then
   bif inb (t79.getD i (0, 0)).2 begins3.length then
    bif inb (t79.getD i (0, 0)).1 code'3.length then
     bif inb (IntKind.i64.wrap ((t79.getD i (0, 0)).1 + 1)) (code'3.set (Int.toNat (t79.getD i (0, 0)).1) (IntKind.u8.wrap (begins3.getD (Int.toNat (t79.getD i (0, 0)).2) 0))).length then
      g5 ((code'3.set (Int.toNat (t79.getD i (0, 0)).1) (IntKind.u8.wrap (begins3.getD (Int.toNat (t79.getD i (0, 0)).2) 0))).set (IntKind.i64.wrap ((t79.getD i (0, 0)).1 + 1)).toNat (IntKind.u8.wrap (shrI IntKind.i64 (begins3.getD (Int.toNat (t79.getD i (0, 0)).2) 0) 8))) begins3 want3 (t79.eraseIdx i)
     else
      none
    else
     none
   else
    none
  else
   none
def mach_Code_p (nf : Nat) (l0 : TBlfn1 → List Int → List Int → List (Int × Int) → Int → Option (List Int × Int × Unit)) (vars : Int) (p : TBlfn1) : Option (List Int × Int × Unit) :=
 Option.bind (block_Check_f nf vars p) fun r =>
 bif r.1 != 0 then
  some (([], r.1, ()))
 else
  l0 p [] [] [] 0
def mach_Code_l5 (nf : Nat) : Nat → List Int → List Int → List (Int × Int) → List (Int × Int) → Option (List Int × Int × Unit)
 | 0, _, _, _, _ => none
 | fu + 1, code'3, begins3, want3, t79 => mach_Code_b5 nf (mach_Code_l5 nf fu) code'3 begins3 want3 t79
def mach_Code_l2 (nf : Nat) (p : TBlfn1) (t27 : Int) (g0 : List Int → List Int → List (Int × Int) → Int → Option (List Int × Int × Unit)) : Nat → List Int → List Int → List (Int × Int) → List TZ01 × Int × Int × Int × Unit → Int → Option (List Int × Int × Unit)
 | 0, _, _, _, _, _ => none
 | fu + 1, code'2, begins2, want2, b, t40 => mach_Code_b2 nf p t27 g0 (mach_Code_l2 nf p t27 g0 fu) code'2 begins2 want2 b t40
def mach_Code_l0 (nf : Nat) (p : TBlfn1) : Nat → List Int → List Int → List (Int × Int) → Int → Option (List Int × Int × Unit)
 | 0, _, _, _, _ => none
 | fu + 1, code', begins, want, t27 => mach_Code_b0 nf (fun _ p1 v0 v1 v2 v3 v4 => mach_Code_l2 nf p p1 (fun code' begins want t27 => mach_Code_l0 nf p fu code' begins want t27) nf v0 v1 v2 v3 v4) (fun v0 v1 v2 v3 => mach_Code_l5 nf nf v0 v1 v2 v3) p (mach_Code_l0 nf p fu) code' begins want t27
def mach_Code_f (nf : Nat) (vars : Int) (p : TBlfn1) : Option (List Int × Int × Unit) := mach_Code_p nf (fun p0 v0 v1 v2 v3 => mach_Code_l0 nf p0 nf v0 v1 v2 v3) vars p
def q117I (nf b : Nat) (L : LC (List Int × Int × Unit)) := LC.F mach_Code_tab (mach_Code_phi nf) (fun _ F => iter nf F) mach_Code_keep b L
def q117L0 (nf : Nat) : LC (List Int × Int × Unit) := theL (findL mach_Code_tab (mach_Code_phi nf) (fun _ F => iter nf F) mach_Code_keep 0 0 (codeOf Try.f63) (fin mach_Code_tab q117R (resL ([]) Try.f63)) (fun _ _ => none) (fin mach_Code_tab q117R (resL ([]) Try.f63)))
def q117m0 (p : TBlfn1) (code' begins : List Int) (want : List (Int × Int)) (t27 : Int) : St := ⟨fresh, [(1, AV.v (tI5fn1.sl.pair tI3fn1).sl mR1 p), (7, AV.box 7 500007 (Ty.int IntKind.u8).sl (Md.own false (Md.bor false true)) code'), (8, AV.ow 500008 iT1.sl (Md.own false mL1) begins), (9, AV.box 9 500009 (iT1.mp iT1) (Md.own true mL1) want), (10, AV.clo 115 [AV.pl 9 9 [Stp.dr], AV.pl 7 7 [Stp.dr]]), (24, AV.clo 115 [AV.pl 9 9 [Stp.dr], AV.pl 7 7 [Stp.dr]]), (25, AV.v (tI5fn1.sl.pair tI3fn1).sl mR1 p), (26, vI1 (p.length : Int)), (27, vI1 t27), (36, AV.dead)]⟩
def q117L2 (nf : Nat) (G0 : St → Option (List Int × Int × Unit)) : LC (List Int × Int × Unit) := theL (findL mach_Code_tab (mach_Code_phi nf) (fun _ F => iter nf F) mach_Code_keep 2 0 (q117L0 nf).c (fun st => norm (mach_Code_keep 0) st G0) (q117L0 nf).Kx (q117L0 nf).Kr)
def q117m2 (p : TBlfn1) (t27 : Int) (code'2 begins2 : List Int) (want2 : List (Int × Int)) (b : List TZ01 × Int × Int × Int × Unit) (t40 : Int) : St := ⟨fresh, [(1, AV.v (tI5fn1.sl.pair tI3fn1).sl mR1 p), (7, AV.box 7 500007 (Ty.int IntKind.u8).sl (Md.own false (Md.bor false true)) code'2), (8, AV.ow 500008 iT1.sl (Md.own false mL1) begins2), (9, AV.box 9 500009 (iT1.mp iT1) (Md.own true mL1) want2), (10, AV.clo 115 [AV.pl 9 9 [Stp.dr], AV.pl 7 7 [Stp.dr]]), (11, vI1 t27), (12, AV.box 12 500012 (tI5fn1.sl.pair tI3fn1) mR1 b), (24, AV.clo 115 [AV.pl 9 9 [Stp.dr], AV.pl 7 7 [Stp.dr]]), (25, AV.v (tI5fn1.sl.pair tI3fn1).sl mR1 p), (26, vI1 (p.length : Int)), (27, vI1 t27), (36, AV.dead), (37, AV.pl 12 12 [Stp.dr, Stp.fld 0]), (38, AV.v tI5fn1.sl mR1 (p.getD t27.toNat ([], 0, 0, 0, ())).1), (39, vI1 ((List.length (p.getD t27.toNat ([], 0, 0, 0, ())).1) : Int)), (40, vI1 t40)]⟩
def q117L5 (nf : Nat) : LC (List Int × Int × Unit) := theL (findL mach_Code_tab (mach_Code_phi nf) (fun _ F => iter nf F) mach_Code_keep 5 0 (codeOf Try.f63) (fin mach_Code_tab q117R (resL ([]) Try.f63)) (fun _ _ => none) (fin mach_Code_tab q117R (resL ([]) Try.f63)))
def q117m5 (code'3 begins3 : List Int) (want3 t79 : List (Int × Int)) : St := ⟨fresh, [(7, AV.box 7 500007 (Ty.int IntKind.u8).sl (Md.own false (Md.bor false true)) code'3), (8, AV.ow 500008 iT1.sl (Md.own false mL1) begins3), (9, AV.box 9 500009 (iT1.mp iT1) (Md.own true mL1) want3), (36, AV.dead), (78, AV.al 9 500009 [Stp.dr]), (79, AV.it 9 500009 [Stp.dr] iT1 iT1 t79 none)]⟩
theorem q117h5 (nf : Nat) (fu : Nat) (code'3 begins3 : List Int) (want3 t79 : List (Int × Int)) : iter (fu + 1) (q117I nf 5 (q117L5 nf)) (q117m5 code'3 begins3 want3 t79) = mach_Code_b5 nf (fun code'3 begins3 want3 t79 => iter fu (q117I nf 5 (q117L5 nf)) (q117m5 code'3 begins3 want3 t79)) code'3 begins3 want3 t79 := by kernel_rfl
theorem q117e5 (nf : Nat) : ∀ (fu : Nat) (code'3 begins3 : List Int) (want3 t79 : List (Int × Int)), iter fu (q117I nf 5 (q117L5 nf)) (q117m5 code'3 begins3 want3 t79) = mach_Code_l5 nf fu code'3 begins3 want3 t79 := by
 intro fu
 induction fu with
 | zero => intros; rfl
 | succ fu ih =>
  intro code'3 begins3 want3 t79
  rw [q117h5 nf fu code'3 begins3 want3 t79]
  simp only [ih]
  rfl
theorem q117h2 (nf : Nat) (G0 : St → Option (List Int × Int × Unit)) (p : TBlfn1) (t27 : Int) (fu : Nat) (code'2 begins2 : List Int) (want2 : List (Int × Int)) (b : List TZ01 × Int × Int × Int × Unit) (t40 : Int) : iter (fu + 1) (q117I nf 2 (q117L2 nf G0)) (q117m2 p t27 code'2 begins2 want2 b t40) = mach_Code_b2 nf p t27 (fun code' begins want t27 => G0 (q117m0 p code' begins want t27)) (fun code'2 begins2 want2 b t40 => iter fu (q117I nf 2 (q117L2 nf G0)) (q117m2 p t27 code'2 begins2 want2 b t40)) code'2 begins2 want2 b t40 := by kernel_rfl
theorem q117e2 (nf : Nat) (G0 : St → Option (List Int × Int × Unit)) (p : TBlfn1) (t27 : Int) : ∀ (fu : Nat) (code'2 begins2 : List Int) (want2 : List (Int × Int)) (b : List TZ01 × Int × Int × Int × Unit) (t40 : Int), iter fu (q117I nf 2 (q117L2 nf G0)) (q117m2 p t27 code'2 begins2 want2 b t40) = mach_Code_l2 nf p t27 (fun code' begins want t27 => G0 (q117m0 p code' begins want t27)) fu code'2 begins2 want2 b t40 := by
 intro fu
 induction fu with
 | zero => intros; rfl
 | succ fu ih =>
  intro code'2 begins2 want2 b t40
  rw [q117h2 nf G0 p t27 fu code'2 begins2 want2 b t40]
  simp only [ih]
  rfl
theorem q117h0 (nf : Nat) (p : TBlfn1) (fu : Nat) (code' begins : List Int) (want : List (Int × Int)) (t27 : Int) : iter (fu + 1) (q117I nf 0 (q117L0 nf)) (q117m0 p code' begins want t27) = mach_Code_b0 nf (fun _ p1 v0 v1 v2 v3 v4 => iter nf (q117I nf 2 (q117L2 nf (iter fu (q117I nf 0 (q117L0 nf))))) (q117m2 p p1 v0 v1 v2 v3 v4)) (fun v0 v1 v2 v3 => iter nf (q117I nf 5 (q117L5 nf)) (q117m5 v0 v1 v2 v3)) p (fun code' begins want t27 => iter fu (q117I nf 0 (q117L0 nf)) (q117m0 p code' begins want t27)) code' begins want t27 := by kernel_rfl
theorem q117e0 (nf : Nat) (p : TBlfn1) : ∀ (fu : Nat) (code' begins : List Int) (want : List (Int × Int)) (t27 : Int), iter fu (q117I nf 0 (q117L0 nf)) (q117m0 p code' begins want t27) = mach_Code_l0 nf p fu code' begins want t27 := by
 intro fu
 induction fu with
 | zero => intros; rfl
 | succ fu ih =>
  intro code' begins want t27
  rw [q117h0 nf p fu code' begins want t27]
  simp only [ih, q117e2, q117e5]
  rfl
theorem mach_Code_eq (nf : Nat) (vars : Int) (p : TBlfn1) : runF mach_Code_tab (mach_Code_phi nf) mach_Code_keep nf q117P q117R (resL ([]) Try.f63) (codeOf Try.f63) ⟨vars, p, ()⟩ = mach_Code_f nf vars p := by
 refine Eq.trans (b := mach_Code_p nf (fun p0 v0 v1 v2 v3 => iter nf (q117I nf 0 (q117L0 nf)) (q117m0 p0 v0 v1 v2 v3)) vars p) (by kernel_rfl) ?_
 simp only [q117e0]
 rfl
def mach_Code_F (nf : Nat) (x : denPs q117P) : Option (denL q117R) := mach_Code_f nf x.1 x.2.1
def mach_Code_C (nf : Nat) : Contract := ⟨q117P, q117R, mach_Code_F nf, []⟩
theorem mach_Code_ok : FnOK Try.prog 63 := ⟨Try.f63, codeOf Try.f63, Try.func63, by kernel_rfl, by kernel_rfl⟩
theorem mach_Code_holds (nf : Nat) : Contract.Holds Try.prog 63 (mach_Code_C nf) :=
 fn_holds (Φ := mach_Code_phi nf) (keep := mach_Code_keep) (n := nf) ⟨mach_Code_tabs.1, mach_Code_tabs.2, (ctx_cons block_Check_ok (block_Check_holds nf) (ctx_cons mach_Code_1_ok (mach_Code_1_holds nf) (ctx_cons mach_step_ok (mach_step_holds nf) ctx_nil))), mixed, bk_ok bkls rfl⟩ (fn := Try.f63) ⟨Try.func63, by kernel_rfl, by kernel_rfl, by kernel_rfl⟩ (fun x => mach_Code_eq nf x.1 x.2.1)

/-! codemason codemasonlaw.MachCodes -/
abbrev q118P : List PT := [.val (.int .i64) (.bor false false), .val (.sl (.pair (.sl (.pair (.int .i64) (.pair (.int .i64) (.pair (.int .i64) (.pair (.int .i64) (.pair (.int .i64) (.unit))))))) (.pair (.int .i64) (.pair (.int .i64) (.pair (.int .i64) (.unit)))))) (.bor false false), .val (.sl (.int .i64)) (.bor false false)]
abbrev q118R : List (Ty × Md) := [(.bool, .bor false true)]
def law_MachCodes_phi (nf : Nat) : Nat → Option Contract := lookC [(20, ref_ProgCheck_C nf), (26, ref_Goes_C nf), (27, ref_Ints_C nf), (50, ref_HaveCheck_C nf), (62, ref_Machine_C nf), (63, mach_Code_C nf)]
def law_MachCodes_keep : Nat → List Nat := lookK []
def law_MachCodes_p (nf : Nat) (vars : Int) (p : TBlfn1) (have' : List Int) : Option (Bool × Unit) :=
 Option.bind (mach_Code_f nf vars p) fun r =>
 Option.bind (ref_ProgCheck_f nf vars p) fun r2 =>
 bif r2.1 != 0 then
  bif r.2.1 == r2.1 then
   some ((((List.length r.1) : Int) == 0, ()))
  else
   some ((false, ()))
 else
  bif r.2.1 != 0 then
   some ((false, ()))
  else
   bif decide (((List.length r.1) : Int) > 400) then
    some ((false, ()))
   else
    Option.bind (ref_HaveCheck_f nf vars have') fun r3 =>
    bif r3.1 != 0 then
     some ((true, ()))
    else
     Option.bind (ref_Goes_f nf p have' 200) fun r4 =>
     bif !r4.2.2.1 then
      some ((true, ()))
     else
      Option.bind (ref_Machine_f nf r.1 have') fun r5 =>
      bif r5.2.1 == 0 then
       bif decide (0 ≤ (0 : Int)) && decide ((0 : Int) ≤ vars) && decide (vars ≤ ((List.length r5.1) : Int)) then
        Option.bind (ref_Ints_f nf (List.take (vars - (0 : Int)).toNat (List.drop 0 r5.1)) r4.1) fun r6 =>
        some ((r6.1, ()))
       else
        none
      else
       some ((false, ()))
def law_MachCodes_f (nf : Nat) (vars : Int) (p : TBlfn1) (have' : List Int) : Option (Bool × Unit) := law_MachCodes_p nf vars p have'
theorem law_MachCodes_eq (nf : Nat) (vars : Int) (p : TBlfn1) (have' : List Int) : runF tab (law_MachCodes_phi nf) law_MachCodes_keep nf q118P q118R (resL ([]) Try.f18) (codeOf Try.f18) ⟨vars, p, have', ()⟩ = law_MachCodes_f nf vars p have' := by kernel_rfl
def law_MachCodes_F (nf : Nat) (x : denPs q118P) : Option (denL q118R) := law_MachCodes_f nf x.1 x.2.1 x.2.2.1
def law_MachCodes_C (nf : Nat) : Contract := ⟨q118P, q118R, law_MachCodes_F nf, []⟩
theorem law_MachCodes_ok : FnOK Try.prog 18 := ⟨Try.f18, codeOf Try.f18, Try.func18, by kernel_rfl, by kernel_rfl⟩
theorem law_MachCodes_holds (nf : Nat) : Contract.Holds Try.prog 18 (law_MachCodes_C nf) :=
 fn_holds (Φ := law_MachCodes_phi nf) (keep := law_MachCodes_keep) (n := nf) ⟨tabs.1, tabs.2, (ctx_cons ref_ProgCheck_ok (ref_ProgCheck_holds nf) (ctx_cons ref_Goes_ok (ref_Goes_holds nf) (ctx_cons ref_Ints_ok (ref_Ints_holds nf) (ctx_cons ref_HaveCheck_ok (ref_HaveCheck_holds nf) (ctx_cons ref_Machine_ok (ref_Machine_holds nf) (ctx_cons mach_Code_ok (mach_Code_holds nf) ctx_nil)))))), mixed, bk_ok bkls rfl⟩ (fn := Try.f18) ⟨Try.func18, by kernel_rfl, by kernel_rfl, by kernel_rfl⟩ (fun x => law_MachCodes_eq nf x.1 x.2.1 x.2.2.1)

/-! codemason term.Do -/
abbrev q119P : List PT := [.val (.int .i64) (.bor true false), .val (.int .i64) (.bor true false), .val (.int .i64) (.bor true false)]
abbrev q119R : List (Ty × Md) := [(.int .i64, .bor false true)]
def term_Do_phi (_ : Nat) : Nat → Option Contract := lookC []
def term_Do_keep : Nat → List Nat := lookK []
def term_Do_p (_ : Nat) (op a b : Int) : Option (Int × Unit) :=
 bif op == 3 then
  some ((IntKind.i64.wrap ((BitVec.ofInt IntKind.i64.bits (IntKind.i64.wrap (a + b)) &&& BitVec.ofInt IntKind.i64.bits 255).toNat : Int), ()))
 else
  bif op == 4 then
   some ((IntKind.i64.wrap ((BitVec.ofInt IntKind.i64.bits (IntKind.i64.wrap (a - b)) &&& BitVec.ofInt IntKind.i64.bits 255).toNat : Int), ()))
  else
   bif op == 5 then
    some ((IntKind.i64.wrap ((BitVec.ofInt IntKind.i64.bits (IntKind.i64.wrap (a * b)) &&& BitVec.ofInt IntKind.i64.bits 255).toNat : Int), ()))
   else
    bif decide (a < b) then
     some ((1, ()))
    else
     some ((0, ()))
def term_Do_f (nf : Nat) (op a b : Int) : Option (Int × Unit) := term_Do_p nf op a b
theorem term_Do_eq (nf : Nat) (op a b : Int) : runF tab (term_Do_phi nf) term_Do_keep nf q119P q119R (resL ([]) Try.f112) (codeOf Try.f112) ⟨op, a, b, ()⟩ = term_Do_f nf op a b := by kernel_rfl
def term_Do_F (nf : Nat) (x : denPs q119P) : Option (denL q119R) := term_Do_f nf x.1 x.2.1 x.2.2.1
def term_Do_C (nf : Nat) : Contract := ⟨q119P, q119R, term_Do_F nf, []⟩
theorem term_Do_ok : FnOK Try.prog 112 := ⟨Try.f112, codeOf Try.f112, Try.func112, by kernel_rfl, by kernel_rfl⟩
theorem term_Do_holds (nf : Nat) : Contract.Holds Try.prog 112 (term_Do_C nf) :=
 fn_holds (Φ := term_Do_phi nf) (keep := term_Do_keep) (n := nf) ⟨tabs.1, tabs.2, ctx_nil, mixed, bk_ok bkls rfl⟩ (fn := Try.f112) ⟨Try.func112, by kernel_rfl, by kernel_rfl, by kernel_rfl⟩ (fun x => term_Do_eq nf x.1 x.2.1 x.2.2.1)

/-! codemason term.Have 1 -/
abbrev q120P : List PT := [.val (.int .i64) (.bor true false)]
abbrev q120R : List (Ty × Md) := [(.bool, .bor false true)]
def term_Have_1_phi (_ : Nat) : Nat → Option Contract := lookC []
def term_Have_1_keep : Nat → List Nat := lookK []
def term_Have_1_p (_ : Nat) (x : Int) : Option (Bool × Unit) :=
 bif decide (x < 0) then
  some ((true, ()))
 else
  some ((decide (x > 255), ()))
def term_Have_1_f (nf : Nat) (x : Int) : Option (Bool × Unit) := term_Have_1_p nf x
theorem term_Have_1_eq (nf : Nat) (x : Int) : runF tab (term_Have_1_phi nf) term_Have_1_keep nf q120P q120R (resL ([]) Try.f119) (codeOf Try.f119) ⟨x, ()⟩ = term_Have_1_f nf x := by kernel_rfl
def term_Have_1_F (nf : Nat) (x : denPs q120P) : Option (denL q120R) := term_Have_1_f nf x.1
def term_Have_1_C (nf : Nat) : Contract := ⟨q120P, q120R, term_Have_1_F nf, []⟩
theorem term_Have_1_ok : FnOK Try.prog 119 := ⟨Try.f119, codeOf Try.f119, Try.func119, by kernel_rfl, by kernel_rfl⟩
theorem term_Have_1_holds (nf : Nat) : Contract.Holds Try.prog 119 (term_Have_1_C nf) :=
 fn_holds (Φ := term_Have_1_phi nf) (keep := term_Have_1_keep) (n := nf) ⟨tabs.1, tabs.2, ctx_nil, mixed, bk_ok bkls rfl⟩ (fn := Try.f119) ⟨Try.func119, by kernel_rfl, by kernel_rfl, by kernel_rfl⟩ (fun x => term_Have_1_eq nf x.1)

/-! slices.IndexFunc int int codemason term.Have 1 -/
abbrev q121P : List PT := [.val (.sl (.int .i64)) (.bor true false), .clo 119 []]
abbrev q121R : List (Ty × Md) := [(.int .i64, .bor false true)]
def slices_IndexFunc__term_Have_1_phi (nf : Nat) : Nat → Option Contract := lookC [(119, term_Have_1_C nf)]
def slices_IndexFunc__term_Have_1_keep : Nat → List Nat := lookK [(0, [0, 1, 7, 8])]
def slices_IndexFunc__term_Have_1_b0 (nf : Nat) (s : List Int) (g0 : Int → Option (Int × Unit)) (t8 : Int) : Option (Int × Unit) :=
 bif decide (t8 < (s.length : Int)) then
  bif inb t8 s.length then
   Option.bind (term_Have_1_f nf (s.getD t8.toNat 0)) fun r =>
   bif r.1 then
    some ((t8, ()))
   else
    g0 (IntKind.i64.wrap (t8 + 1))
  else
   none
 else
  some ((-1, ()))
def slices_IndexFunc__term_Have_1_p (_ : Nat) (l0 : List Int → Int → Option (Int × Unit)) (s : List Int) (_ : Unit) : Option (Int × Unit) :=
 l0 s 0
def slices_IndexFunc__term_Have_1_l0 (nf : Nat) (s : List Int) : Nat → Int → Option (Int × Unit)
 | 0, _ => none
 | fu + 1, t8 => slices_IndexFunc__term_Have_1_b0 nf s (slices_IndexFunc__term_Have_1_l0 nf s fu) t8
def slices_IndexFunc__term_Have_1_f (nf : Nat) (s : List Int) (f : Unit) : Option (Int × Unit) := slices_IndexFunc__term_Have_1_p nf (fun p0 v0 => slices_IndexFunc__term_Have_1_l0 nf p0 nf v0) s f
def q121I (nf b : Nat) (L : LC (Int × Unit)) := LC.F tab (slices_IndexFunc__term_Have_1_phi nf) (fun _ F => iter nf F) slices_IndexFunc__term_Have_1_keep b L
def q121L0 (nf : Nat) : LC (Int × Unit) := theL (findL tab (slices_IndexFunc__term_Have_1_phi nf) (fun _ F => iter nf F) slices_IndexFunc__term_Have_1_keep 0 0 (codeOf Try.f137) (fin tab q121R (resL ([]) Try.f137)) (fun _ _ => none) (fin tab q121R (resL ([]) Try.f137)))
def q121m0 (s : List Int) (t8 : Int) : St := ⟨fresh, [(0, AV.v iT1.sl mR1 s), (1, AV.clo 119 []), (7, vI1 (s.length : Int)), (8, vI1 t8)]⟩
theorem q121h0 (nf : Nat) (s : List Int) (fu : Nat) (t8 : Int) : iter (fu + 1) (q121I nf 0 (q121L0 nf)) (q121m0 s t8) = slices_IndexFunc__term_Have_1_b0 nf s (fun t8 => iter fu (q121I nf 0 (q121L0 nf)) (q121m0 s t8)) t8 := by kernel_rfl
theorem q121e0 (nf : Nat) (s : List Int) : ∀ (fu : Nat) (t8 : Int), iter fu (q121I nf 0 (q121L0 nf)) (q121m0 s t8) = slices_IndexFunc__term_Have_1_l0 nf s fu t8 := by
 intro fu
 induction fu with
 | zero => intros; rfl
 | succ fu ih =>
  intro t8
  rw [q121h0 nf s fu t8]
  simp only [ih]
  rfl
theorem slices_IndexFunc__term_Have_1_eq (nf : Nat) (s : List Int) (f : Unit) : runF tab (slices_IndexFunc__term_Have_1_phi nf) slices_IndexFunc__term_Have_1_keep nf q121P q121R (resL ([]) Try.f137) (codeOf Try.f137) ⟨s, f, ()⟩ = slices_IndexFunc__term_Have_1_f nf s f := by
 refine Eq.trans (b := slices_IndexFunc__term_Have_1_p nf (fun p0 v0 => iter nf (q121I nf 0 (q121L0 nf)) (q121m0 p0 v0)) s f) (by kernel_rfl) ?_
 simp only [q121e0]
 rfl
def slices_IndexFunc__term_Have_1_F (nf : Nat) (x : denPs q121P) : Option (denL q121R) := slices_IndexFunc__term_Have_1_f nf x.1 x.2.1
def slices_IndexFunc__term_Have_1_C (nf : Nat) : Contract := ⟨q121P, q121R, slices_IndexFunc__term_Have_1_F nf, []⟩
theorem slices_IndexFunc__term_Have_1_ok : FnOK Try.prog 137 := ⟨Try.f137, codeOf Try.f137, Try.func137, by kernel_rfl, by kernel_rfl⟩
theorem slices_IndexFunc__term_Have_1_holds (nf : Nat) : Contract.Holds Try.prog 137 (slices_IndexFunc__term_Have_1_C nf) :=
 fn_holds (Φ := slices_IndexFunc__term_Have_1_phi nf) (keep := slices_IndexFunc__term_Have_1_keep) (n := nf) ⟨tabs.1, tabs.2, (ctx_cons term_Have_1_ok (term_Have_1_holds nf) ctx_nil), mixed, bk_ok bkls rfl⟩ (fn := Try.f137) ⟨Try.func137, by kernel_rfl, by kernel_rfl, by kernel_rfl⟩ (fun x => slices_IndexFunc__term_Have_1_eq nf x.1 x.2.1)

/-! slices.ContainsFunc int int codemason term.Have 1 -/
abbrev q122P : List PT := [.val (.sl (.int .i64)) (.bor true false), .clo 119 []]
abbrev q122R : List (Ty × Md) := [(.bool, .bor false true)]
def slices_ContainsFunc__term_Have_1_phi (nf : Nat) : Nat → Option Contract := lookC [(137, slices_IndexFunc__term_Have_1_C nf)]
def slices_ContainsFunc__term_Have_1_keep : Nat → List Nat := lookK []
def slices_ContainsFunc__term_Have_1_p (nf : Nat) (s : List Int) (_ : Unit) : Option (Bool × Unit) :=
 Option.bind (slices_IndexFunc__term_Have_1_f nf s (())) fun r =>
 some ((decide (r.1 ≥ 0), ()))
def slices_ContainsFunc__term_Have_1_f (nf : Nat) (s : List Int) (f : Unit) : Option (Bool × Unit) := slices_ContainsFunc__term_Have_1_p nf s f
theorem slices_ContainsFunc__term_Have_1_eq (nf : Nat) (s : List Int) (f : Unit) : runF tab (slices_ContainsFunc__term_Have_1_phi nf) slices_ContainsFunc__term_Have_1_keep nf q122P q122R (resL ([]) Try.f118) (codeOf Try.f118) ⟨s, f, ()⟩ = slices_ContainsFunc__term_Have_1_f nf s f := by kernel_rfl
def slices_ContainsFunc__term_Have_1_F (nf : Nat) (x : denPs q122P) : Option (denL q122R) := slices_ContainsFunc__term_Have_1_f nf x.1 x.2.1
def slices_ContainsFunc__term_Have_1_C (nf : Nat) : Contract := ⟨q122P, q122R, slices_ContainsFunc__term_Have_1_F nf, []⟩
theorem slices_ContainsFunc__term_Have_1_ok : FnOK Try.prog 118 := ⟨Try.f118, codeOf Try.f118, Try.func118, by kernel_rfl, by kernel_rfl⟩
theorem slices_ContainsFunc__term_Have_1_holds (nf : Nat) : Contract.Holds Try.prog 118 (slices_ContainsFunc__term_Have_1_C nf) :=
 fn_holds (Φ := slices_ContainsFunc__term_Have_1_phi nf) (keep := slices_ContainsFunc__term_Have_1_keep) (n := nf) ⟨tabs.1, tabs.2, (ctx_cons slices_IndexFunc__term_Have_1_ok (slices_IndexFunc__term_Have_1_holds nf) ctx_nil), mixed, bk_ok bkls rfl⟩ (fn := Try.f118) ⟨Try.func118, by kernel_rfl, by kernel_rfl, by kernel_rfl⟩ (fun x => slices_ContainsFunc__term_Have_1_eq nf x.1 x.2.1)

/-! codemason term.Have -/
abbrev q123P : List PT := [.val (.int .i64) (.bor true false), .val (.sl (.int .i64)) (.bor true false)]
abbrev q123R : List (Ty × Md) := [(.int .i64, .bor false true)]
def term_Have_phi (nf : Nat) : Nat → Option Contract := lookC [(118, slices_ContainsFunc__term_Have_1_C nf)]
def term_Have_keep : Nat → List Nat := lookK []
def term_Have_p (nf : Nat) (vars : Int) (have' : List Int) : Option (Int × Unit) :=
 bif (have'.length : Int) != vars then
  some ((3, ()))
 else
  Option.bind (slices_ContainsFunc__term_Have_1_f nf have' (())) fun r =>
  bif r.1 then
   some ((4, ()))
  else
   some ((0, ()))
def term_Have_f (nf : Nat) (vars : Int) (have' : List Int) : Option (Int × Unit) := term_Have_p nf vars have'
theorem term_Have_eq (nf : Nat) (vars : Int) (have' : List Int) : runF tab (term_Have_phi nf) term_Have_keep nf q123P q123R (resL ([]) Try.f68) (codeOf Try.f68) ⟨vars, have', ()⟩ = term_Have_f nf vars have' := by kernel_rfl
def term_Have_F (nf : Nat) (x : denPs q123P) : Option (denL q123R) := term_Have_f nf x.1 x.2.1
def term_Have_C (nf : Nat) : Contract := ⟨q123P, q123R, term_Have_F nf, []⟩
theorem term_Have_ok : FnOK Try.prog 68 := ⟨Try.f68, codeOf Try.f68, Try.func68, by kernel_rfl, by kernel_rfl⟩
theorem term_Have_holds (nf : Nat) : Contract.Holds Try.prog 68 (term_Have_C nf) :=
 fn_holds (Φ := term_Have_phi nf) (keep := term_Have_keep) (n := nf) ⟨tabs.1, tabs.2, (ctx_cons slices_ContainsFunc__term_Have_1_ok (slices_ContainsFunc__term_Have_1_holds nf) ctx_nil), mixed, bk_ok bkls rfl⟩ (fn := Try.f68) ⟨Try.func68, by kernel_rfl, by kernel_rfl, by kernel_rfl⟩ (fun x => term_Have_eq nf x.1 x.2.1)

/-! codemason block.Do -/
abbrev q124P : List PT := [.val (.sl (.pair (.int .i64) (.pair (.int .i64) (.pair (.int .i64) (.pair (.int .i64) (.pair (.int .i64) (.unit))))))) (.bor true false), .val (.sl (.int .i64)) (.own false (.bor false false))]
abbrev q124R : List (Ty × Md) := [(.sl (.int .i64), .own false (.bor false false))]
def block_Do_phi (nf : Nat) : Nat → Option Contract := lookC [(112, term_Do_C nf)]
def block_Do_keep : Nat → List Nat := lookK [(0, [0, 1, 6, 7, 8])]
def block_Do_b0 (nf : Nat) (code' : List TZ01) (g0 : List Int → Int → Option (List Int × Unit)) (vars2 : List Int) (t8 : Int) : Option (List Int × Unit) :=
 bif decide (t8 < (code'.length : Int)) then
  bif inb t8 code'.length then
   bif (code'.getD t8.toNat (0, 0, 0, 0, 0, ())).1 == 1 then
    bif inb (code'.getD t8.toNat (0, 0, 0, 0, 0, ())).2.1 vars2.length then
     g0 (vars2.set (Int.toNat (code'.getD t8.toNat (0, 0, 0, 0, 0, ())).2.1) (code'.getD t8.toNat (0, 0, 0, 0, 0, ())).2.2.2.2.1) (IntKind.i64.wrap (t8 + 1))
    else
     none
   else
    bif (code'.getD t8.toNat (0, 0, 0, 0, 0, ())).1 == 2 then
     bif inb (code'.getD t8.toNat (0, 0, 0, 0, 0, ())).2.2.2.2.1 vars2.length then
      bif inb (code'.getD t8.toNat (0, 0, 0, 0, 0, ())).2.1 vars2.length then
       g0 (vars2.set (Int.toNat (code'.getD t8.toNat (0, 0, 0, 0, 0, ())).2.1) (vars2.getD (Int.toNat (code'.getD t8.toNat (0, 0, 0, 0, 0, ())).2.2.2.2.1) 0)) (IntKind.i64.wrap (t8 + 1))
      else
       none
     else
      none
    else
     bif inb (code'.getD t8.toNat (0, 0, 0, 0, 0, ())).2.2.1 vars2.length then
      bif inb (code'.getD t8.toNat (0, 0, 0, 0, 0, ())).2.2.2.1 vars2.length then
       Option.bind (term_Do_f nf ((code'.getD t8.toNat (0, 0, 0, 0, 0, ())).1) (vars2.getD (Int.toNat (code'.getD t8.toNat (0, 0, 0, 0, 0, ())).2.2.1) 0) (vars2.getD (Int.toNat (code'.getD t8.toNat (0, 0, 0, 0, 0, ())).2.2.2.1) 0)) fun r =>
       bif inb (code'.getD t8.toNat (0, 0, 0, 0, 0, ())).2.1 vars2.length then
        g0 (vars2.set (Int.toNat (code'.getD t8.toNat (0, 0, 0, 0, 0, ())).2.1) r.1) (IntKind.i64.wrap (t8 + 1))
       else
        none
      else
       none
     else
      none
  else
   none
 else
  some ((vars2, ()))
def block_Do_p (_ : Nat) (l0 : List TZ01 → List Int → Int → Option (List Int × Unit)) (code' : List TZ01) (vars : List Int) : Option (List Int × Unit) :=
 l0 code' vars 0
def block_Do_l0 (nf : Nat) (code' : List TZ01) : Nat → List Int → Int → Option (List Int × Unit)
 | 0, _, _ => none
 | fu + 1, vars2, t8 => block_Do_b0 nf code' (block_Do_l0 nf code' fu) vars2 t8
def block_Do_f (nf : Nat) (code' : List TZ01) (vars : List Int) : Option (List Int × Unit) := block_Do_p nf (fun p0 v0 v1 => block_Do_l0 nf p0 nf v0 v1) code' vars
def q124I (nf b : Nat) (L : LC (List Int × Unit)) := LC.F tab (block_Do_phi nf) (fun _ F => iter nf F) block_Do_keep b L
def q124L0 (nf : Nat) : LC (List Int × Unit) := theL (findL tab (block_Do_phi nf) (fun _ F => iter nf F) block_Do_keep 0 0 (codeOf Try.f69) (fin tab q124R (resL ([1]) Try.f69)) (fun _ _ => none) (fin tab q124R (resL ([1]) Try.f69)))
def q124m0 (code' : List TZ01) (vars2 : List Int) (t8 : Int) : St := ⟨fresh, [(0, AV.v tI5fn1.sl mR1 code'), (1, AV.ow 500001 iT1.sl (Md.own false mL1) vars2), (6, AV.v tI5fn1.sl mR1 code'), (7, vI1 (code'.length : Int)), (8, vI1 t8)]⟩
theorem q124h0 (nf : Nat) (code' : List TZ01) (fu : Nat) (vars2 : List Int) (t8 : Int) : iter (fu + 1) (q124I nf 0 (q124L0 nf)) (q124m0 code' vars2 t8) = block_Do_b0 nf code' (fun vars2 t8 => iter fu (q124I nf 0 (q124L0 nf)) (q124m0 code' vars2 t8)) vars2 t8 := by kernel_rfl
theorem q124e0 (nf : Nat) (code' : List TZ01) : ∀ (fu : Nat) (vars2 : List Int) (t8 : Int), iter fu (q124I nf 0 (q124L0 nf)) (q124m0 code' vars2 t8) = block_Do_l0 nf code' fu vars2 t8 := by
 intro fu
 induction fu with
 | zero => intros; rfl
 | succ fu ih =>
  intro vars2 t8
  rw [q124h0 nf code' fu vars2 t8]
  simp only [ih]
  rfl
theorem block_Do_eq (nf : Nat) (code' : List TZ01) (vars : List Int) : runF tab (block_Do_phi nf) block_Do_keep nf q124P q124R (resL ([1]) Try.f69) (codeOf Try.f69) ⟨code', vars, ()⟩ = block_Do_f nf code' vars := by
 refine Eq.trans (b := block_Do_p nf (fun p0 v0 v1 => iter nf (q124I nf 0 (q124L0 nf)) (q124m0 p0 v0 v1)) code' vars) (by kernel_rfl) ?_
 simp only [q124e0]
 rfl
def block_Do_F (nf : Nat) (x : denPs q124P) : Option (denL q124R) := block_Do_f nf x.1 x.2.1
def block_Do_C (nf : Nat) : Contract := ⟨q124P, q124R, block_Do_F nf, [1]⟩
theorem block_Do_ok : FnOK Try.prog 69 := ⟨Try.f69, codeOf Try.f69, Try.func69, by kernel_rfl, by kernel_rfl⟩
theorem block_Do_holds (nf : Nat) : Contract.Holds Try.prog 69 (block_Do_C nf) :=
 fn_holds (Φ := block_Do_phi nf) (keep := block_Do_keep) (n := nf) ⟨tabs.1, tabs.2, (ctx_cons term_Do_ok (term_Do_holds nf) ctx_nil), mixed, bk_ok bkls rfl⟩ (fn := Try.f69) ⟨Try.func69, by kernel_rfl, by kernel_rfl, by kernel_rfl⟩ (fun x => block_Do_eq nf x.1 x.2.1)
end
end Go.Proofs.Ytokjogplnoeicaa.S
