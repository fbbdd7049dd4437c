/- The functions of the code, as plain functions, and the theorems that say so: made by a program of this proof's own. -/
import Derived.Test.YtoglkjmdloppcaaFn1
import Derived.Test.YtoglkjmdloppcaaPutH
import Derived.Test.YtoglkjmdloppcaaChecked
namespace Go.Proofs.Ytoglkjmdloppcaa.S
open Go Go.Ab
noncomputable section

/-! codemason codemasonlaw.StackCodes -/
abbrev qs8P : List PT := [.val (.int .i64) (.bor false false), .val (.sl (.pair (.int .i64) (.pair (.int .i64) (.pair (.int .i64) (.pair (.int .i64) (.unit)))))) (.bor false false)]
abbrev qs8R : List (Ty × Md) := [(.bool, .bor false true)]
def law_StackCodes_phi (nf : Nat) : Nat → Option Contract := lookC [(20, stack_Code_C nf), (21, law_treeCode_C nf), (22, ref_SOps_C nf), (23, ref_Laid_C nf)]
def law_StackCodes_keep : Nat → List Nat := lookK []
def law_StackCodes_p (nf : Nat) (vars : Int) (l' : List (Int × Int × Int × Int × Unit)) : Option (Bool × Unit) :=
 Option.bind (stack_Code_f nf vars l') fun r =>
 Option.bind (law_treeCode_f nf vars l') fun r2 =>
 bif r2.1 != 0 then
  bif r.2.1 == r2.1 then
   some ((((List.length r.1) : Int) == 0, ()))
  else
   some ((false, ()))
 else
  bif r.2.1 == 0 then
   Option.bind (ref_Laid_F nf (l', IntKind.i64.wrap ((l'.length : Int) - 1), ())) fun r3 =>
   Option.bind (ref_SOps_f nf r.1 r3.1) fun r4 =>
   some ((r4.1, ()))
  else
   some ((false, ()))
def law_StackCodes_f (nf : Nat) (vars : Int) (l' : List (Int × Int × Int × Int × Unit)) : Option (Bool × Unit) := law_StackCodes_p nf vars l'
theorem law_StackCodes_eq (nf : Nat) (vars : Int) (l' : List (Int × Int × Int × Int × Unit)) : runF tab (law_StackCodes_phi nf) law_StackCodes_keep nf qs8P qs8R (resL ([]) Try.f6) (codeOf Try.f6) ⟨vars, l', ()⟩ = law_StackCodes_f nf vars l' := by kernel_rfl
def law_StackCodes_F (nf : Nat) (x : denPs qs8P) : Option (denL qs8R) := law_StackCodes_f nf x.1 x.2.1
def law_StackCodes_C (nf : Nat) : Contract := ⟨qs8P, qs8R, law_StackCodes_F nf, []⟩
theorem law_StackCodes_ok : FnOK Try.prog 6 := ⟨Try.f6, codeOf Try.f6, Try.func6, by kernel_rfl, by kernel_rfl⟩
theorem law_StackCodes_holds (nf : Nat) : Contract.Holds Try.prog 6 (law_StackCodes_C nf) :=
 fn_holds (Φ := law_StackCodes_phi nf) (keep := law_StackCodes_keep) (n := nf) ⟨tabs.1, tabs.2, (ctx_cons stack_Code_ok (stack_Code_holds nf) (ctx_cons law_treeCode_ok (law_treeCode_holds nf) (ctx_cons ref_SOps_ok (ref_SOps_holds nf) (ctx_cons ref_Laid_ok (ref_Laid_holds nf) ctx_nil)))), mixed, bk_ok bkls rfl⟩ (fn := Try.f6) ⟨Try.func6, by kernel_rfl, by kernel_rfl, by kernel_rfl⟩ (fun x => law_StackCodes_eq nf x.1 x.2.1)
end
end Go.Proofs.Ytoglkjmdloppcaa.S
