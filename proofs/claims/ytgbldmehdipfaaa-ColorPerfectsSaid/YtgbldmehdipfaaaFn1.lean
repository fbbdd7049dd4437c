/- The functions of the code, as plain functions, and the theorems that say so: made by a program of this proof's own. -/
import Derived.Test.YtgbldmehdipfaaaAbCheck
import Derived.Test.YtgbldmehdipfaaaChecked
namespace Go.Proofs.Ytgbldmehdipfaaa.S
open Go Go.Ab
def tab : Tab := ⟨lookT [(2, .int .i64), (3, .int .i64), (4, .bool), (5, .int .u8), (6, .int .u8), (7, .pair (.int .i64) (.pair (.int .i64) (.pair (.bool) (.pair (.int .u8) (.unit))))), (8, .pair (.int .i64) (.pair (.int .i64) (.pair (.bool) (.pair (.int .u8) (.unit))))), (12, .int .u64), (21, .int .i32), (24, .sl (.pair (.int .i64) (.pair (.int .i64) (.unit)))), (25, .int .u32), (26, .int .i64), (30, .int .u64), (38, .sl (.int .i64)), (44, .sl (.sl (.int .i64))), (49, .pair (.int .i64) (.pair (.int .i64) (.unit))), (51, .sl (.pair (.int .i64) (.pair (.bool) (.pair (.int .i64) (.unit))))), (59, .sl (.pair (.int .i64) (.pair (.int .i64) (.pair (.int .i64) (.unit))))), (64, .sl (.int .u32)), (71, .pair (.int .i64) (.pair (.bool) (.pair (.int .i64) (.unit)))), (72, .pair (.int .i64) (.pair (.bool) (.pair (.int .i64) (.unit)))), (76, .pair (.int .i64) (.pair (.int .i64) (.pair (.int .i64) (.unit)))), (77, .pair (.int .i64) (.pair (.int .i64) (.pair (.int .i64) (.unit)))), (85, .int .u64), (95, .int .u8), (96, .int .u8), (99, .int .i32), (100, .int .i32)], lookM [(2, .bor false true), (3, .bor false true), (4, .bor false true), (5, .bor false true), (6, .bor false true), (7, .bor false true), (8, .bor false true), (12, .bor false true), (21, .bor false true), (24, .own false (.bor false false)), (25, .bor false true), (26, .bor false true), (30, .bor false true), (38, .own false (.bor false false)), (44, .own false (.bor false false)), (49, .bor false true), (51, .own false (.bor false false)), (59, .own false (.bor false false)), (64, .own false (.bor false false)), (71, .bor false true), (72, .bor false true), (76, .bor false true), (77, .bor false true), (85, .bor false true), (95, .bor false true), (96, .bor false true), (99, .bor false true), (100, .bor false true)], hasT [49, 91], hasT [9, 10, 11]⟩
theorem tabs : TabOK Try.prog tab ∧ EqOK Try.prog tab := tab_ok (by kernel_rfl) (by kernel_rfl)
theorem mixed : Try.prog.follows .mixedOrders = true := by kernel_rfl

/-! codemason mach.Size -/
def mach_Size_phi (nf : Nat) : Nat → Option Contract := lookC []
def mach_Size_keep : Nat → List Nat := lookK []
def mach_Size_p (nf : Nat)  (b : Int) : Option (Int × Unit) :=
  bif decide (IntKind.i64.wrap (IntKind.u8.wrap (b.tdiv 8)) > 9) then
    some ((0, ()))
  else
    bif IntKind.i64.wrap (IntKind.u8.wrap (b.tdiv 8)) == 0 then
      some ((1, ()))
    else
      bif IntKind.i64.wrap (IntKind.u8.wrap (b.tdiv 8)) == 1 then
        some ((2, ()))
      else
        bif IntKind.i64.wrap (IntKind.u8.wrap (b.tdiv 8)) == 8 then
          some ((3, ()))
        else
          bif decide (IntKind.i64.wrap (b.tmod 8) ≥ 6) then
            some ((0, ()))
          else
            bif IntKind.i64.wrap (IntKind.u8.wrap (b.tdiv 8)) == 9 then
              some ((3, ()))
            else
              some ((1, ()))
def mach_Size_f (nf : Nat) (b : Int) : Option (Int × Unit) := mach_Size_p nf  b
theorem mach_Size_eq (nf : Nat) (b : Int) : runF tab (mach_Size_phi nf) mach_Size_keep nf [PT.val (Ty.int IntKind.u8) (Md.bor true false)] [(Ty.int IntKind.i64, Md.bor false true)] Try.f11.results.toList (codeOf Try.f11) ⟨b, ()⟩ = mach_Size_f nf b := by
  have h : runF tab (mach_Size_phi nf) mach_Size_keep nf [PT.val (Ty.int IntKind.u8) (Md.bor true false)] [(Ty.int IntKind.i64, Md.bor false true)] Try.f11.results.toList (codeOf Try.f11) ⟨b, ()⟩ = mach_Size_p nf  b := by kernel_rfl
  exact h
def mach_Size_F (nf : Nat) (x : denPs [.val (.int .u8) (.bor true false)]) : Option (denL [(.int .i64, .bor false true)]) := mach_Size_f nf x.1
def mach_Size_C (nf : Nat) : Contract := ⟨[.val (.int .u8) (.bor true false)], [(.int .i64, .bor false true)], mach_Size_F nf⟩
theorem mach_Size_ok : FnOK Try.prog 11 := ⟨Try.f11, codeOf Try.f11, Try.func11, by kernel_rfl, by kernel_rfl⟩
theorem mach_Size_holds (nf : Nat) : Contract.Holds Try.prog 11 (mach_Size_C nf) :=
  fn_holds (Φ := mach_Size_phi nf) (keep := mach_Size_keep) (n := nf) ⟨tabs.1, tabs.2, ctx_nil, mixed⟩ (fn := Try.f11) ⟨Try.func11, by kernel_rfl, by kernel_rfl, by kernel_rfl⟩ (fun x => mach_Size_eq nf x.1)

/-! codemason codemasonref.OrderSize -/
def ref_OrderSize_phi (nf : Nat) : Nat → Option Contract := lookC []
def ref_OrderSize_keep : Nat → List Nat := lookK []
def ref_OrderSize_p (nf : Nat)  (b : Int) : Option (Int × Unit) :=
  bif decide (IntKind.i64.wrap ((IntKind.i64.wrap b).tdiv 8) ≥ (↑[1, 2, 1, 1, 1, 1, 1, 1, 3, 3].length : Int)) then
    some ((0, ()))
  else
    bif decide (IntKind.i64.wrap ((IntKind.i64.wrap b).tdiv 8) ≥ 2) then
      bif decide (IntKind.i64.wrap ((IntKind.i64.wrap b).tdiv 8) ≤ 7) then
        bif decide ((IntKind.i64.wrap b).tmod 8 ≥ 6) then
          some ((0, ()))
        else
          bif inb (IntKind.i64.wrap ((IntKind.i64.wrap b).tdiv 8)) [1, 2, 1, 1, 1, 1, 1, 1, 3, 3].length then
            some (([1, 2, 1, 1, 1, 1, 1, 1, 3, 3].getD (IntKind.i64.wrap ((IntKind.i64.wrap b).tdiv 8)).toNat 0, ()))
          else
            none
      else
        bif IntKind.i64.wrap ((IntKind.i64.wrap b).tdiv 8) == 9 then
          bif decide ((IntKind.i64.wrap b).tmod 8 ≥ 6) then
            some ((0, ()))
          else
            bif inb (IntKind.i64.wrap ((IntKind.i64.wrap b).tdiv 8)) [1, 2, 1, 1, 1, 1, 1, 1, 3, 3].length then
              some (([1, 2, 1, 1, 1, 1, 1, 1, 3, 3].getD (IntKind.i64.wrap ((IntKind.i64.wrap b).tdiv 8)).toNat 0, ()))
            else
              none
        else
          bif inb (IntKind.i64.wrap ((IntKind.i64.wrap b).tdiv 8)) [1, 2, 1, 1, 1, 1, 1, 1, 3, 3].length then
            some (([1, 2, 1, 1, 1, 1, 1, 1, 3, 3].getD (IntKind.i64.wrap ((IntKind.i64.wrap b).tdiv 8)).toNat 0, ()))
          else
            none
    else
      bif IntKind.i64.wrap ((IntKind.i64.wrap b).tdiv 8) == 9 then
        bif decide ((IntKind.i64.wrap b).tmod 8 ≥ 6) then
          some ((0, ()))
        else
          bif inb (IntKind.i64.wrap ((IntKind.i64.wrap b).tdiv 8)) [1, 2, 1, 1, 1, 1, 1, 1, 3, 3].length then
            some (([1, 2, 1, 1, 1, 1, 1, 1, 3, 3].getD (IntKind.i64.wrap ((IntKind.i64.wrap b).tdiv 8)).toNat 0, ()))
          else
            none
      else
        bif inb (IntKind.i64.wrap ((IntKind.i64.wrap b).tdiv 8)) [1, 2, 1, 1, 1, 1, 1, 1, 3, 3].length then
          some (([1, 2, 1, 1, 1, 1, 1, 1, 3, 3].getD (IntKind.i64.wrap ((IntKind.i64.wrap b).tdiv 8)).toNat 0, ()))
        else
          none
def ref_OrderSize_f (nf : Nat) (b : Int) : Option (Int × Unit) := ref_OrderSize_p nf  b
theorem ref_OrderSize_eq (nf : Nat) (b : Int) : runF tab (ref_OrderSize_phi nf) ref_OrderSize_keep nf [PT.val (Ty.int IntKind.u8) (Md.bor true false)] [(Ty.int IntKind.i64, Md.bor false true)] Try.f12.results.toList (codeOf Try.f12) ⟨b, ()⟩ = ref_OrderSize_f nf b := by
  have h : runF tab (ref_OrderSize_phi nf) ref_OrderSize_keep nf [PT.val (Ty.int IntKind.u8) (Md.bor true false)] [(Ty.int IntKind.i64, Md.bor false true)] Try.f12.results.toList (codeOf Try.f12) ⟨b, ()⟩ = ref_OrderSize_p nf  b := by kernel_rfl
  exact h
def ref_OrderSize_F (nf : Nat) (x : denPs [.val (.int .u8) (.bor true false)]) : Option (denL [(.int .i64, .bor false true)]) := ref_OrderSize_f nf x.1
def ref_OrderSize_C (nf : Nat) : Contract := ⟨[.val (.int .u8) (.bor true false)], [(.int .i64, .bor false true)], ref_OrderSize_F nf⟩
theorem ref_OrderSize_ok : FnOK Try.prog 12 := ⟨Try.f12, codeOf Try.f12, Try.func12, by kernel_rfl, by kernel_rfl⟩
theorem ref_OrderSize_holds (nf : Nat) : Contract.Holds Try.prog 12 (ref_OrderSize_C nf) :=
  fn_holds (Φ := ref_OrderSize_phi nf) (keep := ref_OrderSize_keep) (n := nf) ⟨tabs.1, tabs.2, ctx_nil, mixed⟩ (fn := Try.f12) ⟨Try.func12, by kernel_rfl, by kernel_rfl, by kernel_rfl⟩ (fun x => ref_OrderSize_eq nf x.1)

/-! codemason codemasonlaw.MachSizes -/
def law_MachSizes_phi (nf : Nat) : Nat → Option Contract := lookC [(11, mach_Size_C nf), (12, ref_OrderSize_C nf)]
def law_MachSizes_keep : Nat → List Nat := lookK []
def law_MachSizes_p (nf : Nat)  (b : Int) : Option (Bool × Unit) :=
  Option.bind (mach_Size_f nf b) fun r =>
  Option.bind (ref_OrderSize_f nf b) fun r2 =>
  some ((r.fst == r2.fst, ()))
def law_MachSizes_f (nf : Nat) (b : Int) : Option (Bool × Unit) := law_MachSizes_p nf  b
theorem law_MachSizes_eq (nf : Nat) (b : Int) : runF tab (law_MachSizes_phi nf) law_MachSizes_keep nf [PT.val (Ty.int IntKind.u8) (Md.bor true false)] [(Ty.bool, Md.bor false true)] Try.f3.results.toList (codeOf Try.f3) ⟨b, ()⟩ = law_MachSizes_f nf b := by
  have h : runF tab (law_MachSizes_phi nf) law_MachSizes_keep nf [PT.val (Ty.int IntKind.u8) (Md.bor true false)] [(Ty.bool, Md.bor false true)] Try.f3.results.toList (codeOf Try.f3) ⟨b, ()⟩ = law_MachSizes_p nf  b := by kernel_rfl
  exact h
def law_MachSizes_F (nf : Nat) (x : denPs [.val (.int .u8) (.bor true false)]) : Option (denL [(.bool, .bor false true)]) := law_MachSizes_f nf x.1
def law_MachSizes_C (nf : Nat) : Contract := ⟨[.val (.int .u8) (.bor true false)], [(.bool, .bor false true)], law_MachSizes_F nf⟩
theorem law_MachSizes_ok : FnOK Try.prog 3 := ⟨Try.f3, codeOf Try.f3, Try.func3, by kernel_rfl, by kernel_rfl⟩
theorem law_MachSizes_holds (nf : Nat) : Contract.Holds Try.prog 3 (law_MachSizes_C nf) :=
  fn_holds (Φ := law_MachSizes_phi nf) (keep := law_MachSizes_keep) (n := nf) ⟨tabs.1, tabs.2, (ctx_cons mach_Size_ok (mach_Size_holds nf) (ctx_cons ref_OrderSize_ok (ref_OrderSize_holds nf) ctx_nil)), mixed⟩ (fn := Try.f3) ⟨Try.func3, by kernel_rfl, by kernel_rfl, by kernel_rfl⟩ (fun x => law_MachSizes_eq nf x.1)
end Go.Proofs.Ytgbldmehdipfaaa.S
