/- The functions of the code, as plain functions, and the theorems that say so: made by a program of this proof's own. -/
import Derived.Test.YtkcnmbcefbeldaaAbCheck
import Derived.Test.YtkcnmbcefbeldaaChecked
namespace Go.Proofs.Ytkcnmbcefbeldaa.S
open Go Go.Ab
noncomputable section
def tab : Tab := ⟨lookT [(2, .int .i64), (3, .int .i64), (4, .bool), (5, .int .u8), (6, .int .u8), (7, .pair (.int .i64) (.pair (.int .i64) (.pair (.bool) (.pair (.int .u8) (.unit))))), (8, .pair (.int .i64) (.pair (.int .i64) (.pair (.bool) (.pair (.int .u8) (.unit))))), (12, .int .u64), (21, .int .i32), (22, .sl (.pair (.int .i64) (.pair (.int .i64) (.unit)))), (23, .sl (.int .i64)), (24, .int .i64), (35, .int .u32), (43, .sl (.pair (.int .i64) (.pair (.int .i64) (.unit)))), (48, .sl (.int .u8)), (49, .sl (.pair (.int .i64) (.pair (.int .i64) (.pair (.int .i64) (.pair (.int .i64) (.pair (.int .i64) (.unit))))))), (53, .pair (.int .i64) (.pair (.int .i64) (.pair (.int .i64) (.pair (.int .i64) (.pair (.int .i64) (.unit)))))), (54, .pair (.int .i64) (.pair (.int .i64) (.pair (.int .i64) (.pair (.int .i64) (.pair (.int .i64) (.unit)))))), (56, .sl (.int .u32)), (61, .pair (.int .i64) (.pair (.int .i64) (.unit))), (67, .int .u64), (77, .pair (.sl (.int .i64)) (.pair (.sl (.int .i64)) (.unit))), (78, .pair (.sl (.int .i64)) (.pair (.sl (.int .i64)) (.unit))), (79, .pair (.int .i64) (.pair (.int .i64) (.unit))), (80, .pair (.int .i64) (.pair (.int .i64) (.unit))), (84, .sl (.sl (.int .i64))), (88, .sl (.bool)), (96, .int .u8), (97, .int .u8), (100, .int .i32), (101, .int .i32)], lookM [(2, .bor false true), (3, .bor false true), (4, .bor false true), (5, .bor false true), (6, .bor false true), (7, .bor false true), (8, .bor false true), (12, .bor false true), (21, .bor false true), (22, .own false (.bor false false)), (23, .own false (.bor false false)), (24, .bor false true), (35, .bor false true), (43, .own false (.bor false false)), (48, .own false (.bor false false)), (49, .own false (.bor false false)), (53, .bor false true), (54, .bor false true), (56, .own false (.bor false false)), (61, .bor false true), (67, .bor false true), (77, .bor true false), (78, .bor true false), (79, .bor false true), (80, .bor false true), (84, .own false (.bor false false)), (88, .own false (.bor false false)), (96, .bor false true), (97, .bor false true), (100, .bor false true), (101, .bor false true)], hasT [61, 92], hasT [9, 10, 11]⟩
theorem tabs : TabOK Try.prog tab ∧ EqOK Try.prog tab := tab_ok (by kernel_rfl) (by kernel_rfl)
theorem mixed : Try.prog.follows .mixedOrders = true := by kernel_rfl

/-! codemason mach.Size -/
def mach_Size_phi (nf : Nat) : Nat → Option Contract := lookC []
def mach_Size_keep : Nat → List Nat := lookK []
def mach_Size_p (nf : Nat)  (b : Int) : Option (Int × Unit) :=
  bif decide (IntKind.i64.wrap (IntKind.u8.wrap (b.tdiv 8)) > 9) then
    some ((0, ()))
  else
    bif IntKind.i64.wrap (IntKind.u8.wrap (b.tdiv 8)) == 0 then
      some ((1, ()))
    else
      bif IntKind.i64.wrap (IntKind.u8.wrap (b.tdiv 8)) == 1 then
        some ((2, ()))
      else
        bif IntKind.i64.wrap (IntKind.u8.wrap (b.tdiv 8)) == 8 then
          some ((3, ()))
        else
          bif decide (IntKind.i64.wrap (b.tmod 8) ≥ 6) then
            some ((0, ()))
          else
            bif IntKind.i64.wrap (IntKind.u8.wrap (b.tdiv 8)) == 9 then
              some ((3, ()))
            else
              some ((1, ()))
def mach_Size_f (nf : Nat) (b : Int) : Option (Int × Unit) := mach_Size_p nf  b
theorem mach_Size_eq (nf : Nat) (b : Int) : runF tab (mach_Size_phi nf) mach_Size_keep nf [PT.val (Ty.int IntKind.u8) (Md.bor true false)] [(Ty.int IntKind.i64, Md.bor false true)] (resL (none) Try.f51) (codeOf Try.f51) ⟨b, ()⟩ = mach_Size_f nf b := by
  have h : runF tab (mach_Size_phi nf) mach_Size_keep nf [PT.val (Ty.int IntKind.u8) (Md.bor true false)] [(Ty.int IntKind.i64, Md.bor false true)] (resL (none) Try.f51) (codeOf Try.f51) ⟨b, ()⟩ = mach_Size_p nf  b := by kernel_rfl
  exact h
def mach_Size_F (nf : Nat) (x : denPs [.val (.int .u8) (.bor true false)]) : Option (denL [(.int .i64, .bor false true)]) := mach_Size_f nf x.1
def mach_Size_C (nf : Nat) : Contract := ⟨[.val (.int .u8) (.bor true false)], [(.int .i64, .bor false true)], mach_Size_F nf, none⟩
theorem mach_Size_ok : FnOK Try.prog 51 := ⟨Try.f51, codeOf Try.f51, Try.func51, by kernel_rfl, by kernel_rfl⟩
theorem mach_Size_holds (nf : Nat) : Contract.Holds Try.prog 51 (mach_Size_C nf) :=
  fn_holds (Φ := mach_Size_phi nf) (keep := mach_Size_keep) (n := nf) ⟨tabs.1, tabs.2, ctx_nil, mixed⟩ (fn := Try.f51) ⟨Try.func51, by kernel_rfl, by kernel_rfl, by kernel_rfl⟩ (fun x => mach_Size_eq nf x.1)

/-! codemason mach.order -/
def mach_order_phi (nf : Nat) : Nat → Option Contract := lookC [(51, mach_Size_C nf)]
def mach_order_keep : Nat → List Nat := lookK []
def mach_order_p (nf : Nat)  (code' : List Int) (at' : Int) : Option ((Int × Int × Int × Int × Int × Unit) × Int × Bool × Unit) :=
  bif decide (at' ≥ (↑code'.length : Int)) then
    some (((0, 0, 0, 0, 0, ()), 0, false, ()))
  else
    bif inb at' code'.length then
      Option.bind (mach_Size_f nf (code'.getD at'.toNat 0)) fun r =>
      bif r.fst == 0 then
        some (((0, 0, 0, 0, 0, ()), 0, false, ()))
      else
        bif decide (IntKind.i64.wrap (at' + r.fst) > (↑code'.length : Int)) then
          some (((0, 0, 0, 0, 0, ()), 0, false, ()))
        else
          bif IntKind.i64.wrap (IntKind.u8.wrap (Int.tdiv (code'.getD at'.toNat 0) 8)) == 0 then
            some (((IntKind.i64.wrap (IntKind.u8.wrap (Int.tdiv (code'.getD at'.toNat 0) 8)), 0, 0, 0, 0, ()), r.fst, true, ()))
          else
            bif IntKind.i64.wrap (IntKind.u8.wrap (Int.tdiv (code'.getD at'.toNat 0) 8)) == 1 then
              bif inb (IntKind.i64.wrap (at' + 1)) code'.length then
                some (((IntKind.i64.wrap (IntKind.u8.wrap (Int.tdiv (code'.getD at'.toNat 0) 8)), 0, 0, 0, IntKind.i64.wrap (code'.getD (IntKind.i64.wrap (at' + 1)).toNat 0), ()), r.fst, true, ()))
              else
                none
            else
              bif IntKind.i64.wrap (IntKind.u8.wrap (Int.tdiv (code'.getD at'.toNat 0) 8)) == 8 then
                bif inb (IntKind.i64.wrap (at' + 1)) code'.length then
                  bif inb (IntKind.i64.wrap (at' + 2)) code'.length then
                    some (((IntKind.i64.wrap (IntKind.u8.wrap (Int.tdiv (code'.getD at'.toNat 0) 8)), 0, 0, 0, IntKind.i64.wrap (IntKind.i64.wrap (code'.getD (IntKind.i64.wrap (at' + 1)).toNat 0) + shlI IntKind.i64 (IntKind.i64.wrap (code'.getD (IntKind.i64.wrap (at' + 2)).toNat 0)) 8), ()), r.fst, true, ()))
                  else
                    none
                else
                  none
              else
                bif IntKind.i64.wrap (IntKind.u8.wrap (Int.tdiv (code'.getD at'.toNat 0) 8)) == 9 then
                  bif inb (IntKind.i64.wrap (at' + 1)) code'.length then
                    bif inb (IntKind.i64.wrap (at' + 2)) code'.length then
                      some (((IntKind.i64.wrap (IntKind.u8.wrap (Int.tdiv (code'.getD at'.toNat 0) 8)), IntKind.i64.wrap (Int.tmod (code'.getD at'.toNat 0) 8), 0, 0, IntKind.i64.wrap (IntKind.i64.wrap (code'.getD (IntKind.i64.wrap (at' + 1)).toNat 0) + shlI IntKind.i64 (IntKind.i64.wrap (code'.getD (IntKind.i64.wrap (at' + 2)).toNat 0)) 8), ()), r.fst, true, ()))
                    else
                      none
                  else
                    none
                else
                  some (((IntKind.i64.wrap (IntKind.u8.wrap (Int.tdiv (code'.getD at'.toNat 0) 8)), IntKind.i64.wrap (Int.tmod (code'.getD at'.toNat 0) 8), 0, 0, 0, ()), r.fst, true, ()))
    else
      none
def mach_order_f (nf : Nat) (code' : List Int) (at' : Int) : Option ((Int × Int × Int × Int × Int × Unit) × Int × Bool × Unit) := mach_order_p nf  code' at'
theorem mach_order_eq (nf : Nat) (code' : List Int) (at' : Int) : runF tab (mach_order_phi nf) mach_order_keep nf [PT.val (Ty.int IntKind.u8).sl (Md.bor true false), PT.val (Ty.int IntKind.i64) (Md.bor true false)] [((Ty.int IntKind.i64).pair ((Ty.int IntKind.i64).pair ((Ty.int IntKind.i64).pair ((Ty.int IntKind.i64).pair ((Ty.int IntKind.i64).pair Ty.unit)))), Md.bor false true), (Ty.int IntKind.i64, Md.bor false true), (Ty.bool, Md.bor false true)] (resL (none) Try.f47) (codeOf Try.f47) ⟨code', at', ()⟩ = mach_order_f nf code' at' := by
  have h : runF tab (mach_order_phi nf) mach_order_keep nf [PT.val (Ty.int IntKind.u8).sl (Md.bor true false), PT.val (Ty.int IntKind.i64) (Md.bor true false)] [((Ty.int IntKind.i64).pair ((Ty.int IntKind.i64).pair ((Ty.int IntKind.i64).pair ((Ty.int IntKind.i64).pair ((Ty.int IntKind.i64).pair Ty.unit)))), Md.bor false true), (Ty.int IntKind.i64, Md.bor false true), (Ty.bool, Md.bor false true)] (resL (none) Try.f47) (codeOf Try.f47) ⟨code', at', ()⟩ = mach_order_p nf  code' at' := by kernel_rfl
  exact h
def mach_order_F (nf : Nat) (x : denPs [.val (.sl (.int .u8)) (.bor true false), .val (.int .i64) (.bor true false)]) : Option (denL [(.pair (.int .i64) (.pair (.int .i64) (.pair (.int .i64) (.pair (.int .i64) (.pair (.int .i64) (.unit))))), .bor false true), (.int .i64, .bor false true), (.bool, .bor false true)]) := mach_order_f nf x.1 x.2.1
def mach_order_C (nf : Nat) : Contract := ⟨[.val (.sl (.int .u8)) (.bor true false), .val (.int .i64) (.bor true false)], [(.pair (.int .i64) (.pair (.int .i64) (.pair (.int .i64) (.pair (.int .i64) (.pair (.int .i64) (.unit))))), .bor false true), (.int .i64, .bor false true), (.bool, .bor false true)], mach_order_F nf, none⟩
theorem mach_order_ok : FnOK Try.prog 47 := ⟨Try.f47, codeOf Try.f47, Try.func47, by kernel_rfl, by kernel_rfl⟩
theorem mach_order_holds (nf : Nat) : Contract.Holds Try.prog 47 (mach_order_C nf) :=
  fn_holds (Φ := mach_order_phi nf) (keep := mach_order_keep) (n := nf) ⟨tabs.1, tabs.2, (ctx_cons mach_Size_ok (mach_Size_holds nf) ctx_nil), mixed⟩ (fn := Try.f47) ⟨Try.func47, by kernel_rfl, by kernel_rfl, by kernel_rfl⟩ (fun x => mach_order_eq nf x.1 x.2.1)

/-! codemason mach.Text -/
def mach_Text_phi (nf : Nat) : Nat → Option Contract := lookC [(47, mach_order_C nf)]
def mach_Text_keep : Nat → List Nat := lookK [(0, [0, 4, 5, 28])]
def mach_Text_b0 (nf : Nat) (code' : List Int) (g0 : List (Int × Int × Int × Int × Int × Unit) → Int → Option (List (Int × Int × Int × Int × Int × Unit) × Int × Unit)) (l' : List (Int × Int × Int × Int × Int × Unit)) (at' : Int) : Option (List (Int × Int × Int × Int × Int × Unit) × Int × Unit) :=
  bif decide (at' < (↑code'.length : Int)) then
    Option.bind (mach_order_f nf code' at') fun r =>
    bif !r.snd.snd.fst then
      some (([], 6, ()))
    else
      bif bimp false ![r.fst].isEmpty && (l'.length + [r.fst].length).ble lim then
        g0 (l' ++ [r.fst]) (IntKind.i64.wrap (at' + r.snd.fst))
      else
        none
  else
    some ((l', 0, ()))
def mach_Text_p (nf : Nat) (l0 : List Int → List (Int × Int × Int × Int × Int × Unit) → Int → Option (List (Int × Int × Int × Int × Int × Unit) × Int × Unit)) (code' : List Int) : Option (List (Int × Int × Int × Int × Int × Unit) × Int × Unit) :=
  bif decide ((↑code'.length : Int) > 400) then
    some (([], 1, ()))
  else
    l0 code' [] 0
def mach_Text_l0 (nf : Nat) (code' : List Int) : Nat → List (Int × Int × Int × Int × Int × Unit) → Int → Option (List (Int × Int × Int × Int × Int × Unit) × Int × Unit)
  | 0, _, _ => none
  | fu + 1, l', at' => mach_Text_b0 nf  code'  (mach_Text_l0 nf code'  fu) l' at'
def mach_Text_f (nf : Nat) (code' : List Int) : Option (List (Int × Int × Int × Int × Int × Unit) × Int × Unit) := mach_Text_p nf (fun p0 v0 v1 => mach_Text_l0 nf p0 nf v0 v1) code'
noncomputable def mach_Text_L0 (nf : Nat) : LC (List (Int × Int × Int × Int × Int × Unit) × Int × Unit) := theL (findL tab (mach_Text_phi nf) (fun _ F => iter nf F) mach_Text_keep 0 0 (codeOf Try.f26) (fin tab [(((Ty.int IntKind.i64).pair ((Ty.int IntKind.i64).pair ((Ty.int IntKind.i64).pair ((Ty.int IntKind.i64).pair ((Ty.int IntKind.i64).pair Ty.unit))))).sl, Md.own false (Md.bor false false)), (Ty.int IntKind.i64, Md.bor false true)] (resL (none) Try.f26)) (fun _ _ => none) (fin tab [(((Ty.int IntKind.i64).pair ((Ty.int IntKind.i64).pair ((Ty.int IntKind.i64).pair ((Ty.int IntKind.i64).pair ((Ty.int IntKind.i64).pair Ty.unit))))).sl, Md.own false (Md.bor false false)), (Ty.int IntKind.i64, Md.bor false true)] (resL (none) Try.f26)))
def mach_Text_m0 (code' : List Int) (l' : List (Int × Int × Int × Int × Int × Unit)) (at' : Int) : St := ⟨fresh, [(0, AV.v (Ty.int IntKind.u8).sl (Md.bor true false) code'), (4, AV.ow 500004 ((Ty.int IntKind.i64).pair ((Ty.int IntKind.i64).pair ((Ty.int IntKind.i64).pair ((Ty.int IntKind.i64).pair ((Ty.int IntKind.i64).pair Ty.unit))))).sl (Md.own false (Md.bor false false)) l'), (5, AV.v (Ty.int IntKind.i64) (Md.bor false true) at'), (28, AV.dead)]⟩
theorem mach_Text_h0 (nf : Nat)  (code' : List Int) (fu : Nat) (l' : List (Int × Int × Int × Int × Int × Unit)) (at' : Int) : iter (fu + 1) (LC.F tab (mach_Text_phi nf) (fun _ F => iter nf F) mach_Text_keep 0 (mach_Text_L0 nf )) (mach_Text_m0 code' l' at') = mach_Text_b0 nf  code'  (fun l' at' => iter fu (LC.F tab (mach_Text_phi nf) (fun _ F => iter nf F) mach_Text_keep 0 (mach_Text_L0 nf )) (mach_Text_m0 code' l' at')) l' at' := by kernel_rfl
theorem mach_Text_e0 (nf : Nat)  (code' : List Int) : ∀ (fu : Nat) (l' : List (Int × Int × Int × Int × Int × Unit)) (at' : Int), iter fu (LC.F tab (mach_Text_phi nf) (fun _ F => iter nf F) mach_Text_keep 0 (mach_Text_L0 nf )) (mach_Text_m0 code' l' at') = mach_Text_l0 nf code'  fu l' at' := by
  intro fu
  induction fu with
  | zero => intros; rfl
  | succ fu ih =>
    intro l' at'
    rw [mach_Text_h0 nf  code' fu l' at']
    simp only [ih]
    rfl
theorem mach_Text_eq (nf : Nat) (code' : List Int) : runF tab (mach_Text_phi nf) mach_Text_keep nf [PT.val (Ty.int IntKind.u8).sl (Md.bor true false)] [(((Ty.int IntKind.i64).pair ((Ty.int IntKind.i64).pair ((Ty.int IntKind.i64).pair ((Ty.int IntKind.i64).pair ((Ty.int IntKind.i64).pair Ty.unit))))).sl, Md.own false (Md.bor false false)), (Ty.int IntKind.i64, Md.bor false true)] (resL (none) Try.f26) (codeOf Try.f26) ⟨code', ()⟩ = mach_Text_f nf code' := by
  have h : runF tab (mach_Text_phi nf) mach_Text_keep nf [PT.val (Ty.int IntKind.u8).sl (Md.bor true false)] [(((Ty.int IntKind.i64).pair ((Ty.int IntKind.i64).pair ((Ty.int IntKind.i64).pair ((Ty.int IntKind.i64).pair ((Ty.int IntKind.i64).pair Ty.unit))))).sl, Md.own false (Md.bor false false)), (Ty.int IntKind.i64, Md.bor false true)] (resL (none) Try.f26) (codeOf Try.f26) ⟨code', ()⟩ = mach_Text_p nf (fun p0 v0 v1 => iter nf (LC.F tab (mach_Text_phi nf) (fun _ F => iter nf F) mach_Text_keep 0 (mach_Text_L0 nf)) (mach_Text_m0 p0 v0 v1)) code' := by kernel_rfl
  rw [h]
  simp only [mach_Text_e0]
  rfl
def mach_Text_F (nf : Nat) (x : denPs [.val (.sl (.int .u8)) (.bor true false)]) : Option (denL [(.sl (.pair (.int .i64) (.pair (.int .i64) (.pair (.int .i64) (.pair (.int .i64) (.pair (.int .i64) (.unit)))))), .own false (.bor false false)), (.int .i64, .bor false true)]) := mach_Text_f nf x.1
def mach_Text_C (nf : Nat) : Contract := ⟨[.val (.sl (.int .u8)) (.bor true false)], [(.sl (.pair (.int .i64) (.pair (.int .i64) (.pair (.int .i64) (.pair (.int .i64) (.pair (.int .i64) (.unit)))))), .own false (.bor false false)), (.int .i64, .bor false true)], mach_Text_F nf, none⟩
theorem mach_Text_ok : FnOK Try.prog 26 := ⟨Try.f26, codeOf Try.f26, Try.func26, by kernel_rfl, by kernel_rfl⟩
theorem mach_Text_holds (nf : Nat) : Contract.Holds Try.prog 26 (mach_Text_C nf) :=
  fn_holds (Φ := mach_Text_phi nf) (keep := mach_Text_keep) (n := nf) ⟨tabs.1, tabs.2, (ctx_cons mach_order_ok (mach_order_holds nf) ctx_nil), mixed⟩ (fn := Try.f26) ⟨Try.func26, by kernel_rfl, by kernel_rfl, by kernel_rfl⟩ (fun x => mach_Text_eq nf x.1)

/-! codemason codemasonref.OrderSize -/
def ref_OrderSize_phi (nf : Nat) : Nat → Option Contract := lookC []
def ref_OrderSize_keep : Nat → List Nat := lookK []
def ref_OrderSize_p (nf : Nat)  (b : Int) : Option (Int × Unit) :=
  bif decide (IntKind.i64.wrap ((IntKind.i64.wrap b).tdiv 8) ≥ (↑[1, 2, 1, 1, 1, 1, 1, 1, 3, 3].length : Int)) then
    some ((0, ()))
  else
    bif decide (IntKind.i64.wrap ((IntKind.i64.wrap b).tdiv 8) ≥ 2) then
      bif decide (IntKind.i64.wrap ((IntKind.i64.wrap b).tdiv 8) ≤ 7) then
        bif decide ((IntKind.i64.wrap b).tmod 8 ≥ 6) then
          some ((0, ()))
        else
          bif inb (IntKind.i64.wrap ((IntKind.i64.wrap b).tdiv 8)) [1, 2, 1, 1, 1, 1, 1, 1, 3, 3].length then
            some (([1, 2, 1, 1, 1, 1, 1, 1, 3, 3].getD (IntKind.i64.wrap ((IntKind.i64.wrap b).tdiv 8)).toNat 0, ()))
          else
            none
      else
        bif IntKind.i64.wrap ((IntKind.i64.wrap b).tdiv 8) == 9 then
          bif decide ((IntKind.i64.wrap b).tmod 8 ≥ 6) then
            some ((0, ()))
          else
            bif inb (IntKind.i64.wrap ((IntKind.i64.wrap b).tdiv 8)) [1, 2, 1, 1, 1, 1, 1, 1, 3, 3].length then
              some (([1, 2, 1, 1, 1, 1, 1, 1, 3, 3].getD (IntKind.i64.wrap ((IntKind.i64.wrap b).tdiv 8)).toNat 0, ()))
            else
              none
        else
          bif inb (IntKind.i64.wrap ((IntKind.i64.wrap b).tdiv 8)) [1, 2, 1, 1, 1, 1, 1, 1, 3, 3].length then
            some (([1, 2, 1, 1, 1, 1, 1, 1, 3, 3].getD (IntKind.i64.wrap ((IntKind.i64.wrap b).tdiv 8)).toNat 0, ()))
          else
            none
    else
      bif IntKind.i64.wrap ((IntKind.i64.wrap b).tdiv 8) == 9 then
        bif decide ((IntKind.i64.wrap b).tmod 8 ≥ 6) then
          some ((0, ()))
        else
          bif inb (IntKind.i64.wrap ((IntKind.i64.wrap b).tdiv 8)) [1, 2, 1, 1, 1, 1, 1, 1, 3, 3].length then
            some (([1, 2, 1, 1, 1, 1, 1, 1, 3, 3].getD (IntKind.i64.wrap ((IntKind.i64.wrap b).tdiv 8)).toNat 0, ()))
          else
            none
      else
        bif inb (IntKind.i64.wrap ((IntKind.i64.wrap b).tdiv 8)) [1, 2, 1, 1, 1, 1, 1, 1, 3, 3].length then
          some (([1, 2, 1, 1, 1, 1, 1, 1, 3, 3].getD (IntKind.i64.wrap ((IntKind.i64.wrap b).tdiv 8)).toNat 0, ()))
        else
          none
def ref_OrderSize_f (nf : Nat) (b : Int) : Option (Int × Unit) := ref_OrderSize_p nf  b
theorem ref_OrderSize_eq (nf : Nat) (b : Int) : runF tab (ref_OrderSize_phi nf) ref_OrderSize_keep nf [PT.val (Ty.int IntKind.u8) (Md.bor true false)] [(Ty.int IntKind.i64, Md.bor false true)] (resL (none) Try.f27) (codeOf Try.f27) ⟨b, ()⟩ = ref_OrderSize_f nf b := by
  have h : runF tab (ref_OrderSize_phi nf) ref_OrderSize_keep nf [PT.val (Ty.int IntKind.u8) (Md.bor true false)] [(Ty.int IntKind.i64, Md.bor false true)] (resL (none) Try.f27) (codeOf Try.f27) ⟨b, ()⟩ = ref_OrderSize_p nf  b := by kernel_rfl
  exact h
def ref_OrderSize_F (nf : Nat) (x : denPs [.val (.int .u8) (.bor true false)]) : Option (denL [(.int .i64, .bor false true)]) := ref_OrderSize_f nf x.1
def ref_OrderSize_C (nf : Nat) : Contract := ⟨[.val (.int .u8) (.bor true false)], [(.int .i64, .bor false true)], ref_OrderSize_F nf, none⟩
theorem ref_OrderSize_ok : FnOK Try.prog 27 := ⟨Try.f27, codeOf Try.f27, Try.func27, by kernel_rfl, by kernel_rfl⟩
theorem ref_OrderSize_holds (nf : Nat) : Contract.Holds Try.prog 27 (ref_OrderSize_C nf) :=
  fn_holds (Φ := ref_OrderSize_phi nf) (keep := ref_OrderSize_keep) (n := nf) ⟨tabs.1, tabs.2, ctx_nil, mixed⟩ (fn := Try.f27) ⟨Try.func27, by kernel_rfl, by kernel_rfl, by kernel_rfl⟩ (fun x => ref_OrderSize_eq nf x.1)

/-! codemason codemasonlaw.MachTexts -/
def law_MachTexts_phi (nf : Nat) : Nat → Option Contract := lookC [(26, mach_Text_C nf), (27, ref_OrderSize_C nf)]
def law_MachTexts_keep : Nat → List Nat := lookK [(0, [0, 3, 4, 5, 6, 9, 11, 12])]
def law_MachTexts_b0 (nf : Nat) (code' : List Int) (r : List (Int × Int × Int × Int × Int × Unit) × Int × Unit) (g0 : List (Int × Int × Int × Int × Int × Unit) → Int → Int → Option (Bool × Unit)) (l' : List (Int × Int × Int × Int × Int × Unit)) (k' : Int) (at' : Int) : Option (Bool × Unit) :=
  bif decide (at' < (↑code'.length : Int)) then
    bif inb at' code'.length then
      Option.bind (ref_OrderSize_f nf (code'.getD at'.toNat 0)) fun r2 =>
      bif r2.fst == 0 then
        bif r.snd.fst == 6 then
          some (((↑l'.length : Int) == 0, ()))
        else
          some ((false, ()))
      else
        bif decide (IntKind.i64.wrap (at' + r2.fst) > (↑code'.length : Int)) then
          bif r.snd.fst == 6 then
            some (((↑l'.length : Int) == 0, ()))
          else
            some ((false, ()))
        else
          bif r.snd.fst == 0 then
            bif inb at' code'.length then
              bif inb at' code'.length then
                both (bif decide (IntKind.i64.wrap ((IntKind.i64.wrap (code'.getD at'.toNat 0)).tdiv 8) < 2) then
                  bif r2.fst == 2 then
                    bif inb (IntKind.i64.wrap (at' + 1)) code'.length then
                      bif r2.fst == 3 then
                        bif inb (IntKind.i64.wrap (at' + 1)) code'.length then
                          bif inb (IntKind.i64.wrap (at' + 2)) code'.length then
                            bif decide (k' ≥ (↑l'.length : Int)) then
                              some ((false, ()))
                            else
                              bif inb k' l'.length then
                                bif !((l'.getD k'.toNat (0, 0, 0, 0, 0, ())).fst == IntKind.i64.wrap ((IntKind.i64.wrap (code'.getD at'.toNat 0)).tdiv 8) && ((l'.getD k'.toNat (0, 0, 0, 0, 0, ())).snd.fst == 0 && ((l'.getD k'.toNat (0, 0, 0, 0, 0, ())).snd.snd.fst == 0 && ((l'.getD k'.toNat (0, 0, 0, 0, 0, ())).snd.snd.snd.fst == 0 && ((l'.getD k'.toNat (0, 0, 0, 0, 0, ())).snd.snd.snd.snd.fst == IntKind.i64.wrap (IntKind.i64.wrap (code'.getD (IntKind.i64.wrap (at' + 1)).toNat 0) + IntKind.i64.wrap (256 * IntKind.i64.wrap (code'.getD (IntKind.i64.wrap (at' + 2)).toNat 0))) && true))))) then
                                  some ((false, ()))
                                else
                                  g0 l' (IntKind.i64.wrap (k' + 1)) (IntKind.i64.wrap (at' + r2.fst))
                              else
                                none
                          else
                            none
                        else
                          none
                      else
                        bif decide (k' ≥ (↑l'.length : Int)) then
                          some ((false, ()))
                        else
                          bif inb k' l'.length then
                            bif !((l'.getD k'.toNat (0, 0, 0, 0, 0, ())).fst == IntKind.i64.wrap ((IntKind.i64.wrap (code'.getD at'.toNat 0)).tdiv 8) && ((l'.getD k'.toNat (0, 0, 0, 0, 0, ())).snd.fst == 0 && ((l'.getD k'.toNat (0, 0, 0, 0, 0, ())).snd.snd.fst == 0 && ((l'.getD k'.toNat (0, 0, 0, 0, 0, ())).snd.snd.snd.fst == 0 && ((l'.getD k'.toNat (0, 0, 0, 0, 0, ())).snd.snd.snd.snd.fst == IntKind.i64.wrap (code'.getD (IntKind.i64.wrap (at' + 1)).toNat 0) && true))))) then
                              some ((false, ()))
                            else
                              g0 l' (IntKind.i64.wrap (k' + 1)) (IntKind.i64.wrap (at' + r2.fst))
                          else
                            none
                    else
                      none
                  else
                    bif r2.fst == 3 then
                      bif inb (IntKind.i64.wrap (at' + 1)) code'.length then
                        bif inb (IntKind.i64.wrap (at' + 2)) code'.length then
                          bif decide (k' ≥ (↑l'.length : Int)) then
                            some ((false, ()))
                          else
                            bif inb k' l'.length then
                              bif !((l'.getD k'.toNat (0, 0, 0, 0, 0, ())).fst == IntKind.i64.wrap ((IntKind.i64.wrap (code'.getD at'.toNat 0)).tdiv 8) && ((l'.getD k'.toNat (0, 0, 0, 0, 0, ())).snd.fst == 0 && ((l'.getD k'.toNat (0, 0, 0, 0, 0, ())).snd.snd.fst == 0 && ((l'.getD k'.toNat (0, 0, 0, 0, 0, ())).snd.snd.snd.fst == 0 && ((l'.getD k'.toNat (0, 0, 0, 0, 0, ())).snd.snd.snd.snd.fst == IntKind.i64.wrap (IntKind.i64.wrap (code'.getD (IntKind.i64.wrap (at' + 1)).toNat 0) + IntKind.i64.wrap (256 * IntKind.i64.wrap (code'.getD (IntKind.i64.wrap (at' + 2)).toNat 0))) && true))))) then
                                some ((false, ()))
                              else
                                g0 l' (IntKind.i64.wrap (k' + 1)) (IntKind.i64.wrap (at' + r2.fst))
                            else
                              none
                        else
                          none
                      else
                        none
                    else
                      bif decide (k' ≥ (↑l'.length : Int)) then
                        some ((false, ()))
                      else
                        bif inb k' l'.length then
                          bif !((l'.getD k'.toNat (0, 0, 0, 0, 0, ())).fst == IntKind.i64.wrap ((IntKind.i64.wrap (code'.getD at'.toNat 0)).tdiv 8) && ((l'.getD k'.toNat (0, 0, 0, 0, 0, ())).snd.fst == 0 && ((l'.getD k'.toNat (0, 0, 0, 0, 0, ())).snd.snd.fst == 0 && ((l'.getD k'.toNat (0, 0, 0, 0, 0, ())).snd.snd.snd.fst == 0 && ((l'.getD k'.toNat (0, 0, 0, 0, 0, ())).snd.snd.snd.snd.fst == 0 && true))))) then
                            some ((false, ()))
                          else
                            g0 l' (IntKind.i64.wrap (k' + 1)) (IntKind.i64.wrap (at' + r2.fst))
                        else
                          none
                else
                  bif IntKind.i64.wrap ((IntKind.i64.wrap (code'.getD at'.toNat 0)).tdiv 8) == 8 then
                    bif r2.fst == 2 then
                      bif inb (IntKind.i64.wrap (at' + 1)) code'.length then
                        bif r2.fst == 3 then
                          bif inb (IntKind.i64.wrap (at' + 1)) code'.length then
                            bif inb (IntKind.i64.wrap (at' + 2)) code'.length then
                              bif decide (k' ≥ (↑l'.length : Int)) then
                                some ((false, ()))
                              else
                                bif inb k' l'.length then
                                  bif !((l'.getD k'.toNat (0, 0, 0, 0, 0, ())).fst == IntKind.i64.wrap ((IntKind.i64.wrap (code'.getD at'.toNat 0)).tdiv 8) && ((l'.getD k'.toNat (0, 0, 0, 0, 0, ())).snd.fst == 0 && ((l'.getD k'.toNat (0, 0, 0, 0, 0, ())).snd.snd.fst == 0 && ((l'.getD k'.toNat (0, 0, 0, 0, 0, ())).snd.snd.snd.fst == 0 && ((l'.getD k'.toNat (0, 0, 0, 0, 0, ())).snd.snd.snd.snd.fst == IntKind.i64.wrap (IntKind.i64.wrap (code'.getD (IntKind.i64.wrap (at' + 1)).toNat 0) + IntKind.i64.wrap (256 * IntKind.i64.wrap (code'.getD (IntKind.i64.wrap (at' + 2)).toNat 0))) && true))))) then
                                    some ((false, ()))
                                  else
                                    g0 l' (IntKind.i64.wrap (k' + 1)) (IntKind.i64.wrap (at' + r2.fst))
                                else
                                  none
                            else
                              none
                          else
                            none
                        else
                          bif decide (k' ≥ (↑l'.length : Int)) then
                            some ((false, ()))
                          else
                            bif inb k' l'.length then
                              bif !((l'.getD k'.toNat (0, 0, 0, 0, 0, ())).fst == IntKind.i64.wrap ((IntKind.i64.wrap (code'.getD at'.toNat 0)).tdiv 8) && ((l'.getD k'.toNat (0, 0, 0, 0, 0, ())).snd.fst == 0 && ((l'.getD k'.toNat (0, 0, 0, 0, 0, ())).snd.snd.fst == 0 && ((l'.getD k'.toNat (0, 0, 0, 0, 0, ())).snd.snd.snd.fst == 0 && ((l'.getD k'.toNat (0, 0, 0, 0, 0, ())).snd.snd.snd.snd.fst == IntKind.i64.wrap (code'.getD (IntKind.i64.wrap (at' + 1)).toNat 0) && true))))) then
                                some ((false, ()))
                              else
                                g0 l' (IntKind.i64.wrap (k' + 1)) (IntKind.i64.wrap (at' + r2.fst))
                            else
                              none
                      else
                        none
                    else
                      bif r2.fst == 3 then
                        bif inb (IntKind.i64.wrap (at' + 1)) code'.length then
                          bif inb (IntKind.i64.wrap (at' + 2)) code'.length then
                            bif decide (k' ≥ (↑l'.length : Int)) then
                              some ((false, ()))
                            else
                              bif inb k' l'.length then
                                bif !((l'.getD k'.toNat (0, 0, 0, 0, 0, ())).fst == IntKind.i64.wrap ((IntKind.i64.wrap (code'.getD at'.toNat 0)).tdiv 8) && ((l'.getD k'.toNat (0, 0, 0, 0, 0, ())).snd.fst == 0 && ((l'.getD k'.toNat (0, 0, 0, 0, 0, ())).snd.snd.fst == 0 && ((l'.getD k'.toNat (0, 0, 0, 0, 0, ())).snd.snd.snd.fst == 0 && ((l'.getD k'.toNat (0, 0, 0, 0, 0, ())).snd.snd.snd.snd.fst == IntKind.i64.wrap (IntKind.i64.wrap (code'.getD (IntKind.i64.wrap (at' + 1)).toNat 0) + IntKind.i64.wrap (256 * IntKind.i64.wrap (code'.getD (IntKind.i64.wrap (at' + 2)).toNat 0))) && true))))) then
                                  some ((false, ()))
                                else
                                  g0 l' (IntKind.i64.wrap (k' + 1)) (IntKind.i64.wrap (at' + r2.fst))
                              else
                                none
                          else
                            none
                        else
                          none
                      else
                        bif decide (k' ≥ (↑l'.length : Int)) then
                          some ((false, ()))
                        else
                          bif inb k' l'.length then
                            bif !((l'.getD k'.toNat (0, 0, 0, 0, 0, ())).fst == IntKind.i64.wrap ((IntKind.i64.wrap (code'.getD at'.toNat 0)).tdiv 8) && ((l'.getD k'.toNat (0, 0, 0, 0, 0, ())).snd.fst == 0 && ((l'.getD k'.toNat (0, 0, 0, 0, 0, ())).snd.snd.fst == 0 && ((l'.getD k'.toNat (0, 0, 0, 0, 0, ())).snd.snd.snd.fst == 0 && ((l'.getD k'.toNat (0, 0, 0, 0, 0, ())).snd.snd.snd.snd.fst == 0 && true))))) then
                              some ((false, ()))
                            else
                              g0 l' (IntKind.i64.wrap (k' + 1)) (IntKind.i64.wrap (at' + r2.fst))
                          else
                            none
                  else
                    bif r2.fst == 2 then
                      bif inb (IntKind.i64.wrap (at' + 1)) code'.length then
                        bif r2.fst == 3 then
                          bif inb (IntKind.i64.wrap (at' + 1)) code'.length then
                            bif inb (IntKind.i64.wrap (at' + 2)) code'.length then
                              bif decide (k' ≥ (↑l'.length : Int)) then
                                some ((false, ()))
                              else
                                bif inb k' l'.length then
                                  bif !((l'.getD k'.toNat (0, 0, 0, 0, 0, ())).fst == IntKind.i64.wrap ((IntKind.i64.wrap (code'.getD at'.toNat 0)).tdiv 8) && ((l'.getD k'.toNat (0, 0, 0, 0, 0, ())).snd.fst == (IntKind.i64.wrap (code'.getD at'.toNat 0)).tmod 8 && ((l'.getD k'.toNat (0, 0, 0, 0, 0, ())).snd.snd.fst == 0 && ((l'.getD k'.toNat (0, 0, 0, 0, 0, ())).snd.snd.snd.fst == 0 && ((l'.getD k'.toNat (0, 0, 0, 0, 0, ())).snd.snd.snd.snd.fst == IntKind.i64.wrap (IntKind.i64.wrap (code'.getD (IntKind.i64.wrap (at' + 1)).toNat 0) + IntKind.i64.wrap (256 * IntKind.i64.wrap (code'.getD (IntKind.i64.wrap (at' + 2)).toNat 0))) && true))))) then
                                    some ((false, ()))
                                  else
                                    g0 l' (IntKind.i64.wrap (k' + 1)) (IntKind.i64.wrap (at' + r2.fst))
                                else
                                  none
                            else
                              none
                          else
                            none
                        else
                          bif decide (k' ≥ (↑l'.length : Int)) then
                            some ((false, ()))
                          else
                            bif inb k' l'.length then
                              bif !((l'.getD k'.toNat (0, 0, 0, 0, 0, ())).fst == IntKind.i64.wrap ((IntKind.i64.wrap (code'.getD at'.toNat 0)).tdiv 8) && ((l'.getD k'.toNat (0, 0, 0, 0, 0, ())).snd.fst == (IntKind.i64.wrap (code'.getD at'.toNat 0)).tmod 8 && ((l'.getD k'.toNat (0, 0, 0, 0, 0, ())).snd.snd.fst == 0 && ((l'.getD k'.toNat (0, 0, 0, 0, 0, ())).snd.snd.snd.fst == 0 && ((l'.getD k'.toNat (0, 0, 0, 0, 0, ())).snd.snd.snd.snd.fst == IntKind.i64.wrap (code'.getD (IntKind.i64.wrap (at' + 1)).toNat 0) && true))))) then
                                some ((false, ()))
                              else
                                g0 l' (IntKind.i64.wrap (k' + 1)) (IntKind.i64.wrap (at' + r2.fst))
                            else
                              none
                      else
                        none
                    else
                      bif r2.fst == 3 then
                        bif inb (IntKind.i64.wrap (at' + 1)) code'.length then
                          bif inb (IntKind.i64.wrap (at' + 2)) code'.length then
                            bif decide (k' ≥ (↑l'.length : Int)) then
                              some ((false, ()))
                            else
                              bif inb k' l'.length then
                                bif !((l'.getD k'.toNat (0, 0, 0, 0, 0, ())).fst == IntKind.i64.wrap ((IntKind.i64.wrap (code'.getD at'.toNat 0)).tdiv 8) && ((l'.getD k'.toNat (0, 0, 0, 0, 0, ())).snd.fst == (IntKind.i64.wrap (code'.getD at'.toNat 0)).tmod 8 && ((l'.getD k'.toNat (0, 0, 0, 0, 0, ())).snd.snd.fst == 0 && ((l'.getD k'.toNat (0, 0, 0, 0, 0, ())).snd.snd.snd.fst == 0 && ((l'.getD k'.toNat (0, 0, 0, 0, 0, ())).snd.snd.snd.snd.fst == IntKind.i64.wrap (IntKind.i64.wrap (code'.getD (IntKind.i64.wrap (at' + 1)).toNat 0) + IntKind.i64.wrap (256 * IntKind.i64.wrap (code'.getD (IntKind.i64.wrap (at' + 2)).toNat 0))) && true))))) then
                                  some ((false, ()))
                                else
                                  g0 l' (IntKind.i64.wrap (k' + 1)) (IntKind.i64.wrap (at' + r2.fst))
                              else
                                none
                          else
                            none
                        else
                          none
                      else
                        bif decide (k' ≥ (↑l'.length : Int)) then
                          some ((false, ()))
                        else
                          bif inb k' l'.length then
                            bif !((l'.getD k'.toNat (0, 0, 0, 0, 0, ())).fst == IntKind.i64.wrap ((IntKind.i64.wrap (code'.getD at'.toNat 0)).tdiv 8) && ((l'.getD k'.toNat (0, 0, 0, 0, 0, ())).snd.fst == (IntKind.i64.wrap (code'.getD at'.toNat 0)).tmod 8 && ((l'.getD k'.toNat (0, 0, 0, 0, 0, ())).snd.snd.fst == 0 && ((l'.getD k'.toNat (0, 0, 0, 0, 0, ())).snd.snd.snd.fst == 0 && ((l'.getD k'.toNat (0, 0, 0, 0, 0, ())).snd.snd.snd.snd.fst == 0 && true))))) then
                              some ((false, ()))
                            else
                              g0 l' (IntKind.i64.wrap (k' + 1)) (IntKind.i64.wrap (at' + r2.fst))
                          else
                            none) (bif decide (IntKind.i64.wrap ((IntKind.i64.wrap (code'.getD at'.toNat 0)).tdiv 8) < 2) then
                  bif r2.fst == 2 then
                    bif inb (IntKind.i64.wrap (at' + 1)) code'.length then
                      bif r2.fst == 3 then
                        bif inb (IntKind.i64.wrap (at' + 1)) code'.length then
                          bif inb (IntKind.i64.wrap (at' + 2)) code'.length then
                            bif decide (k' ≥ (↑l'.length : Int)) then
                              some ((false, ()))
                            else
                              bif inb k' l'.length then
                                bif !((l'.getD k'.toNat (0, 0, 0, 0, 0, ())).fst == IntKind.i64.wrap ((IntKind.i64.wrap (code'.getD at'.toNat 0)).tdiv 8) && ((l'.getD k'.toNat (0, 0, 0, 0, 0, ())).snd.fst == 0 && ((l'.getD k'.toNat (0, 0, 0, 0, 0, ())).snd.snd.fst == 0 && ((l'.getD k'.toNat (0, 0, 0, 0, 0, ())).snd.snd.snd.fst == 0 && ((l'.getD k'.toNat (0, 0, 0, 0, 0, ())).snd.snd.snd.snd.fst == IntKind.i64.wrap (IntKind.i64.wrap (code'.getD (IntKind.i64.wrap (at' + 1)).toNat 0) + IntKind.i64.wrap (256 * IntKind.i64.wrap (code'.getD (IntKind.i64.wrap (at' + 2)).toNat 0))) && true))))) then
                                  some ((false, ()))
                                else
                                  g0 l' (IntKind.i64.wrap (k' + 1)) (IntKind.i64.wrap (at' + r2.fst))
                              else
                                none
                          else
                            none
                        else
                          none
                      else
                        bif decide (k' ≥ (↑l'.length : Int)) then
                          some ((false, ()))
                        else
                          bif inb k' l'.length then
                            bif !((l'.getD k'.toNat (0, 0, 0, 0, 0, ())).fst == IntKind.i64.wrap ((IntKind.i64.wrap (code'.getD at'.toNat 0)).tdiv 8) && ((l'.getD k'.toNat (0, 0, 0, 0, 0, ())).snd.fst == 0 && ((l'.getD k'.toNat (0, 0, 0, 0, 0, ())).snd.snd.fst == 0 && ((l'.getD k'.toNat (0, 0, 0, 0, 0, ())).snd.snd.snd.fst == 0 && ((l'.getD k'.toNat (0, 0, 0, 0, 0, ())).snd.snd.snd.snd.fst == IntKind.i64.wrap (code'.getD (IntKind.i64.wrap (at' + 1)).toNat 0) && true))))) then
                              some ((false, ()))
                            else
                              g0 l' (IntKind.i64.wrap (k' + 1)) (IntKind.i64.wrap (at' + r2.fst))
                          else
                            none
                    else
                      none
                  else
                    bif r2.fst == 3 then
                      bif inb (IntKind.i64.wrap (at' + 1)) code'.length then
                        bif inb (IntKind.i64.wrap (at' + 2)) code'.length then
                          bif decide (k' ≥ (↑l'.length : Int)) then
                            some ((false, ()))
                          else
                            bif inb k' l'.length then
                              bif !((l'.getD k'.toNat (0, 0, 0, 0, 0, ())).fst == IntKind.i64.wrap ((IntKind.i64.wrap (code'.getD at'.toNat 0)).tdiv 8) && ((l'.getD k'.toNat (0, 0, 0, 0, 0, ())).snd.fst == 0 && ((l'.getD k'.toNat (0, 0, 0, 0, 0, ())).snd.snd.fst == 0 && ((l'.getD k'.toNat (0, 0, 0, 0, 0, ())).snd.snd.snd.fst == 0 && ((l'.getD k'.toNat (0, 0, 0, 0, 0, ())).snd.snd.snd.snd.fst == IntKind.i64.wrap (IntKind.i64.wrap (code'.getD (IntKind.i64.wrap (at' + 1)).toNat 0) + IntKind.i64.wrap (256 * IntKind.i64.wrap (code'.getD (IntKind.i64.wrap (at' + 2)).toNat 0))) && true))))) then
                                some ((false, ()))
                              else
                                g0 l' (IntKind.i64.wrap (k' + 1)) (IntKind.i64.wrap (at' + r2.fst))
                            else
                              none
                        else
                          none
                      else
                        none
                    else
                      bif decide (k' ≥ (↑l'.length : Int)) then
                        some ((false, ()))
                      else
                        bif inb k' l'.length then
                          bif !((l'.getD k'.toNat (0, 0, 0, 0, 0, ())).fst == IntKind.i64.wrap ((IntKind.i64.wrap (code'.getD at'.toNat 0)).tdiv 8) && ((l'.getD k'.toNat (0, 0, 0, 0, 0, ())).snd.fst == 0 && ((l'.getD k'.toNat (0, 0, 0, 0, 0, ())).snd.snd.fst == 0 && ((l'.getD k'.toNat (0, 0, 0, 0, 0, ())).snd.snd.snd.fst == 0 && ((l'.getD k'.toNat (0, 0, 0, 0, 0, ())).snd.snd.snd.snd.fst == 0 && true))))) then
                            some ((false, ()))
                          else
                            g0 l' (IntKind.i64.wrap (k' + 1)) (IntKind.i64.wrap (at' + r2.fst))
                        else
                          none
                else
                  bif IntKind.i64.wrap ((IntKind.i64.wrap (code'.getD at'.toNat 0)).tdiv 8) == 8 then
                    bif r2.fst == 2 then
                      bif inb (IntKind.i64.wrap (at' + 1)) code'.length then
                        bif r2.fst == 3 then
                          bif inb (IntKind.i64.wrap (at' + 1)) code'.length then
                            bif inb (IntKind.i64.wrap (at' + 2)) code'.length then
                              bif decide (k' ≥ (↑l'.length : Int)) then
                                some ((false, ()))
                              else
                                bif inb k' l'.length then
                                  bif !((l'.getD k'.toNat (0, 0, 0, 0, 0, ())).fst == IntKind.i64.wrap ((IntKind.i64.wrap (code'.getD at'.toNat 0)).tdiv 8) && ((l'.getD k'.toNat (0, 0, 0, 0, 0, ())).snd.fst == 0 && ((l'.getD k'.toNat (0, 0, 0, 0, 0, ())).snd.snd.fst == 0 && ((l'.getD k'.toNat (0, 0, 0, 0, 0, ())).snd.snd.snd.fst == 0 && ((l'.getD k'.toNat (0, 0, 0, 0, 0, ())).snd.snd.snd.snd.fst == IntKind.i64.wrap (IntKind.i64.wrap (code'.getD (IntKind.i64.wrap (at' + 1)).toNat 0) + IntKind.i64.wrap (256 * IntKind.i64.wrap (code'.getD (IntKind.i64.wrap (at' + 2)).toNat 0))) && true))))) then
                                    some ((false, ()))
                                  else
                                    g0 l' (IntKind.i64.wrap (k' + 1)) (IntKind.i64.wrap (at' + r2.fst))
                                else
                                  none
                            else
                              none
                          else
                            none
                        else
                          bif decide (k' ≥ (↑l'.length : Int)) then
                            some ((false, ()))
                          else
                            bif inb k' l'.length then
                              bif !((l'.getD k'.toNat (0, 0, 0, 0, 0, ())).fst == IntKind.i64.wrap ((IntKind.i64.wrap (code'.getD at'.toNat 0)).tdiv 8) && ((l'.getD k'.toNat (0, 0, 0, 0, 0, ())).snd.fst == 0 && ((l'.getD k'.toNat (0, 0, 0, 0, 0, ())).snd.snd.fst == 0 && ((l'.getD k'.toNat (0, 0, 0, 0, 0, ())).snd.snd.snd.fst == 0 && ((l'.getD k'.toNat (0, 0, 0, 0, 0, ())).snd.snd.snd.snd.fst == IntKind.i64.wrap (code'.getD (IntKind.i64.wrap (at' + 1)).toNat 0) && true))))) then
                                some ((false, ()))
                              else
                                g0 l' (IntKind.i64.wrap (k' + 1)) (IntKind.i64.wrap (at' + r2.fst))
                            else
                              none
                      else
                        none
                    else
                      bif r2.fst == 3 then
                        bif inb (IntKind.i64.wrap (at' + 1)) code'.length then
                          bif inb (IntKind.i64.wrap (at' + 2)) code'.length then
                            bif decide (k' ≥ (↑l'.length : Int)) then
                              some ((false, ()))
                            else
                              bif inb k' l'.length then
                                bif !((l'.getD k'.toNat (0, 0, 0, 0, 0, ())).fst == IntKind.i64.wrap ((IntKind.i64.wrap (code'.getD at'.toNat 0)).tdiv 8) && ((l'.getD k'.toNat (0, 0, 0, 0, 0, ())).snd.fst == 0 && ((l'.getD k'.toNat (0, 0, 0, 0, 0, ())).snd.snd.fst == 0 && ((l'.getD k'.toNat (0, 0, 0, 0, 0, ())).snd.snd.snd.fst == 0 && ((l'.getD k'.toNat (0, 0, 0, 0, 0, ())).snd.snd.snd.snd.fst == IntKind.i64.wrap (IntKind.i64.wrap (code'.getD (IntKind.i64.wrap (at' + 1)).toNat 0) + IntKind.i64.wrap (256 * IntKind.i64.wrap (code'.getD (IntKind.i64.wrap (at' + 2)).toNat 0))) && true))))) then
                                  some ((false, ()))
                                else
                                  g0 l' (IntKind.i64.wrap (k' + 1)) (IntKind.i64.wrap (at' + r2.fst))
                              else
                                none
                          else
                            none
                        else
                          none
                      else
                        bif decide (k' ≥ (↑l'.length : Int)) then
                          some ((false, ()))
                        else
                          bif inb k' l'.length then
                            bif !((l'.getD k'.toNat (0, 0, 0, 0, 0, ())).fst == IntKind.i64.wrap ((IntKind.i64.wrap (code'.getD at'.toNat 0)).tdiv 8) && ((l'.getD k'.toNat (0, 0, 0, 0, 0, ())).snd.fst == 0 && ((l'.getD k'.toNat (0, 0, 0, 0, 0, ())).snd.snd.fst == 0 && ((l'.getD k'.toNat (0, 0, 0, 0, 0, ())).snd.snd.snd.fst == 0 && ((l'.getD k'.toNat (0, 0, 0, 0, 0, ())).snd.snd.snd.snd.fst == 0 && true))))) then
                              some ((false, ()))
                            else
                              g0 l' (IntKind.i64.wrap (k' + 1)) (IntKind.i64.wrap (at' + r2.fst))
                          else
                            none
                  else
                    bif r2.fst == 2 then
                      bif inb (IntKind.i64.wrap (at' + 1)) code'.length then
                        bif r2.fst == 3 then
                          bif inb (IntKind.i64.wrap (at' + 1)) code'.length then
                            bif inb (IntKind.i64.wrap (at' + 2)) code'.length then
                              bif decide (k' ≥ (↑l'.length : Int)) then
                                some ((false, ()))
                              else
                                bif inb k' l'.length then
                                  bif !((l'.getD k'.toNat (0, 0, 0, 0, 0, ())).fst == IntKind.i64.wrap ((IntKind.i64.wrap (code'.getD at'.toNat 0)).tdiv 8) && ((l'.getD k'.toNat (0, 0, 0, 0, 0, ())).snd.fst == (IntKind.i64.wrap (code'.getD at'.toNat 0)).tmod 8 && ((l'.getD k'.toNat (0, 0, 0, 0, 0, ())).snd.snd.fst == 0 && ((l'.getD k'.toNat (0, 0, 0, 0, 0, ())).snd.snd.snd.fst == 0 && ((l'.getD k'.toNat (0, 0, 0, 0, 0, ())).snd.snd.snd.snd.fst == IntKind.i64.wrap (IntKind.i64.wrap (code'.getD (IntKind.i64.wrap (at' + 1)).toNat 0) + IntKind.i64.wrap (256 * IntKind.i64.wrap (code'.getD (IntKind.i64.wrap (at' + 2)).toNat 0))) && true))))) then
                                    some ((false, ()))
                                  else
                                    g0 l' (IntKind.i64.wrap (k' + 1)) (IntKind.i64.wrap (at' + r2.fst))
                                else
                                  none
                            else
                              none
                          else
                            none
                        else
                          bif decide (k' ≥ (↑l'.length : Int)) then
                            some ((false, ()))
                          else
                            bif inb k' l'.length then
                              bif !((l'.getD k'.toNat (0, 0, 0, 0, 0, ())).fst == IntKind.i64.wrap ((IntKind.i64.wrap (code'.getD at'.toNat 0)).tdiv 8) && ((l'.getD k'.toNat (0, 0, 0, 0, 0, ())).snd.fst == (IntKind.i64.wrap (code'.getD at'.toNat 0)).tmod 8 && ((l'.getD k'.toNat (0, 0, 0, 0, 0, ())).snd.snd.fst == 0 && ((l'.getD k'.toNat (0, 0, 0, 0, 0, ())).snd.snd.snd.fst == 0 && ((l'.getD k'.toNat (0, 0, 0, 0, 0, ())).snd.snd.snd.snd.fst == IntKind.i64.wrap (code'.getD (IntKind.i64.wrap (at' + 1)).toNat 0) && true))))) then
                                some ((false, ()))
                              else
                                g0 l' (IntKind.i64.wrap (k' + 1)) (IntKind.i64.wrap (at' + r2.fst))
                            else
                              none
                      else
                        none
                    else
                      bif r2.fst == 3 then
                        bif inb (IntKind.i64.wrap (at' + 1)) code'.length then
                          bif inb (IntKind.i64.wrap (at' + 2)) code'.length then
                            bif decide (k' ≥ (↑l'.length : Int)) then
                              some ((false, ()))
                            else
                              bif inb k' l'.length then
                                bif !((l'.getD k'.toNat (0, 0, 0, 0, 0, ())).fst == IntKind.i64.wrap ((IntKind.i64.wrap (code'.getD at'.toNat 0)).tdiv 8) && ((l'.getD k'.toNat (0, 0, 0, 0, 0, ())).snd.fst == (IntKind.i64.wrap (code'.getD at'.toNat 0)).tmod 8 && ((l'.getD k'.toNat (0, 0, 0, 0, 0, ())).snd.snd.fst == 0 && ((l'.getD k'.toNat (0, 0, 0, 0, 0, ())).snd.snd.snd.fst == 0 && ((l'.getD k'.toNat (0, 0, 0, 0, 0, ())).snd.snd.snd.snd.fst == IntKind.i64.wrap (IntKind.i64.wrap (code'.getD (IntKind.i64.wrap (at' + 1)).toNat 0) + IntKind.i64.wrap (256 * IntKind.i64.wrap (code'.getD (IntKind.i64.wrap (at' + 2)).toNat 0))) && true))))) then
                                  some ((false, ()))
                                else
                                  g0 l' (IntKind.i64.wrap (k' + 1)) (IntKind.i64.wrap (at' + r2.fst))
                              else
                                none
                          else
                            none
                        else
                          none
                      else
                        bif decide (k' ≥ (↑l'.length : Int)) then
                          some ((false, ()))
                        else
                          bif inb k' l'.length then
                            bif !((l'.getD k'.toNat (0, 0, 0, 0, 0, ())).fst == IntKind.i64.wrap ((IntKind.i64.wrap (code'.getD at'.toNat 0)).tdiv 8) && ((l'.getD k'.toNat (0, 0, 0, 0, 0, ())).snd.fst == (IntKind.i64.wrap (code'.getD at'.toNat 0)).tmod 8 && ((l'.getD k'.toNat (0, 0, 0, 0, 0, ())).snd.snd.fst == 0 && ((l'.getD k'.toNat (0, 0, 0, 0, 0, ())).snd.snd.snd.fst == 0 && ((l'.getD k'.toNat (0, 0, 0, 0, 0, ())).snd.snd.snd.snd.fst == 0 && true))))) then
                              some ((false, ()))
                            else
                              g0 l' (IntKind.i64.wrap (k' + 1)) (IntKind.i64.wrap (at' + r2.fst))
                          else
                            none)
              else
                none
            else
              none
          else
            g0 l' (IntKind.i64.wrap (k' + 1)) (IntKind.i64.wrap (at' + r2.fst))
    else
      none
  else
    bif r.snd.fst == 0 then
      some ((k' == (↑l'.length : Int), ()))
    else
      some ((false, ()))
def law_MachTexts_p (nf : Nat) (l0 : List Int → List (Int × Int × Int × Int × Int × Unit) × Int × Unit → List (Int × Int × Int × Int × Int × Unit) → Int → Int → Option (Bool × Unit)) (code' : List Int) : Option (Bool × Unit) :=
  Option.bind (mach_Text_f nf code') fun r =>
  bif decide ((↑code'.length : Int) > 400) then
    bif r.snd.fst == 1 then
      some (((↑(List.length r.fst) : Int) == 0, ()))
    else
      some ((false, ()))
  else
    l0 code' r r.fst 0 0
def law_MachTexts_l0 (nf : Nat) (code' : List Int) (r : List (Int × Int × Int × Int × Int × Unit) × Int × Unit) : Nat → List (Int × Int × Int × Int × Int × Unit) → Int → Int → Option (Bool × Unit)
  | 0, _, _, _ => none
  | fu + 1, l', k', at' => law_MachTexts_b0 nf  code' r  (law_MachTexts_l0 nf code' r  fu) l' k' at'
def law_MachTexts_f (nf : Nat) (code' : List Int) : Option (Bool × Unit) := law_MachTexts_p nf (fun p0 p1 v0 v1 v2 => law_MachTexts_l0 nf p0 p1 nf v0 v1 v2) code'
noncomputable def law_MachTexts_L0 (nf : Nat) : LC (Bool × Unit) := theL (findL tab (law_MachTexts_phi nf) (fun _ F => iter nf F) law_MachTexts_keep 0 0 (codeOf Try.f9) (fin tab [(Ty.bool, Md.bor false true)] (resL (none) Try.f9)) (fun _ _ => none) (fin tab [(Ty.bool, Md.bor false true)] (resL (none) Try.f9)))
def law_MachTexts_m0 (code' : List Int) (r : List (Int × Int × Int × Int × Int × Unit) × Int × Unit) (l' : List (Int × Int × Int × Int × Int × Unit)) (k' : Int) (at' : Int) : St := ⟨fresh, [(0, AV.v (Ty.int IntKind.u8).sl (Md.bor true false) code'), (3, AV.ow 500003 ((Ty.int IntKind.i64).pair ((Ty.int IntKind.i64).pair ((Ty.int IntKind.i64).pair ((Ty.int IntKind.i64).pair ((Ty.int IntKind.i64).pair Ty.unit))))).sl (Md.own false (Md.bor false false)) l'), (4, AV.v (Ty.int IntKind.i64) (Md.bor false true) r.snd.fst), (5, AV.v (Ty.int IntKind.i64) (Md.bor false true) k'), (6, AV.v (Ty.int IntKind.i64) (Md.bor false true) at'), (9, AV.dead), (11, AV.dead), (12, AV.dead)]⟩
theorem law_MachTexts_h0 (nf : Nat)  (code' : List Int) (r : List (Int × Int × Int × Int × Int × Unit) × Int × Unit) (fu : Nat) (l' : List (Int × Int × Int × Int × Int × Unit)) (k' : Int) (at' : Int) : iter (fu + 1) (LC.F tab (law_MachTexts_phi nf) (fun _ F => iter nf F) law_MachTexts_keep 0 (law_MachTexts_L0 nf )) (law_MachTexts_m0 code' r l' k' at') = law_MachTexts_b0 nf  code' r  (fun l' k' at' => iter fu (LC.F tab (law_MachTexts_phi nf) (fun _ F => iter nf F) law_MachTexts_keep 0 (law_MachTexts_L0 nf )) (law_MachTexts_m0 code' r l' k' at')) l' k' at' := by kernel_rfl
theorem law_MachTexts_e0 (nf : Nat)  (code' : List Int) (r : List (Int × Int × Int × Int × Int × Unit) × Int × Unit) : ∀ (fu : Nat) (l' : List (Int × Int × Int × Int × Int × Unit)) (k' : Int) (at' : Int), iter fu (LC.F tab (law_MachTexts_phi nf) (fun _ F => iter nf F) law_MachTexts_keep 0 (law_MachTexts_L0 nf )) (law_MachTexts_m0 code' r l' k' at') = law_MachTexts_l0 nf code' r  fu l' k' at' := by
  intro fu
  induction fu with
  | zero => intros; rfl
  | succ fu ih =>
    intro l' k' at'
    rw [law_MachTexts_h0 nf  code' r fu l' k' at']
    simp only [ih]
    rfl
theorem law_MachTexts_eq (nf : Nat) (code' : List Int) : runF tab (law_MachTexts_phi nf) law_MachTexts_keep nf [PT.val (Ty.int IntKind.u8).sl (Md.bor true false)] [(Ty.bool, Md.bor false true)] (resL (none) Try.f9) (codeOf Try.f9) ⟨code', ()⟩ = law_MachTexts_f nf code' := by
  have h : runF tab (law_MachTexts_phi nf) law_MachTexts_keep nf [PT.val (Ty.int IntKind.u8).sl (Md.bor true false)] [(Ty.bool, Md.bor false true)] (resL (none) Try.f9) (codeOf Try.f9) ⟨code', ()⟩ = law_MachTexts_p nf (fun p0 p1 v0 v1 v2 => iter nf (LC.F tab (law_MachTexts_phi nf) (fun _ F => iter nf F) law_MachTexts_keep 0 (law_MachTexts_L0 nf)) (law_MachTexts_m0 p0 p1 v0 v1 v2)) code' := by kernel_rfl
  rw [h]
  simp only [law_MachTexts_e0]
  rfl
def law_MachTexts_F (nf : Nat) (x : denPs [.val (.sl (.int .u8)) (.bor true false)]) : Option (denL [(.bool, .bor false true)]) := law_MachTexts_f nf x.1
def law_MachTexts_C (nf : Nat) : Contract := ⟨[.val (.sl (.int .u8)) (.bor true false)], [(.bool, .bor false true)], law_MachTexts_F nf, none⟩
theorem law_MachTexts_ok : FnOK Try.prog 9 := ⟨Try.f9, codeOf Try.f9, Try.func9, by kernel_rfl, by kernel_rfl⟩
theorem law_MachTexts_holds (nf : Nat) : Contract.Holds Try.prog 9 (law_MachTexts_C nf) :=
  fn_holds (Φ := law_MachTexts_phi nf) (keep := law_MachTexts_keep) (n := nf) ⟨tabs.1, tabs.2, (ctx_cons mach_Text_ok (mach_Text_holds nf) (ctx_cons ref_OrderSize_ok (ref_OrderSize_holds nf) ctx_nil)), mixed⟩ (fn := Try.f9) ⟨Try.func9, by kernel_rfl, by kernel_rfl, by kernel_rfl⟩ (fun x => law_MachTexts_eq nf x.1)
end
end Go.Proofs.Ytkcnmbcefbeldaa.S
