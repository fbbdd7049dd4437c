/- The functions of the code, as plain functions, and the theorems that say so: made by a program of this proof's own. -/
import Derived.Test.YtokjogplnoeicaaFn1
import Derived.Test.YtokjogplnoeicaaChecked
namespace Go.Proofs.Ytokjogplnoeicaa.S
open Go Go.Ab

/-! codemason mach.Size -/
def mach_Size_phi (nf : Nat) : Nat → Option Contract := lookC []
def mach_Size_keep : Nat → List Nat := lookK []
def mach_Size_p (nf : Nat)  (b : Int) : Option (Int × Unit) :=
  bif decide (IntKind.i64.wrap (IntKind.u8.wrap (b.tdiv 8)) > 9) then
    some ((0, ()))
  else
    bif IntKind.i64.wrap (IntKind.u8.wrap (b.tdiv 8)) == 0 then
      some ((1, ()))
    else
      bif IntKind.i64.wrap (IntKind.u8.wrap (b.tdiv 8)) == 1 then
        some ((2, ()))
      else
        bif IntKind.i64.wrap (IntKind.u8.wrap (b.tdiv 8)) == 8 then
          some ((3, ()))
        else
          bif decide (IntKind.i64.wrap (b.tmod 8) ≥ 6) then
            some ((0, ()))
          else
            bif IntKind.i64.wrap (IntKind.u8.wrap (b.tdiv 8)) == 9 then
              some ((3, ()))
            else
              some ((1, ()))
def mach_Size_f (nf : Nat) (b : Int) : Option (Int × Unit) := mach_Size_p nf  b
theorem mach_Size_eq (nf : Nat) (b : Int) : runF tab (mach_Size_phi nf) mach_Size_keep nf [PT.val (Ty.int IntKind.u8) (Md.bor true false)] [(Ty.int IntKind.i64, Md.bor false true)] Try.f136.results.toList (codeOf Try.f136) ⟨b, ()⟩ = mach_Size_f nf b := by
  have h : runF tab (mach_Size_phi nf) mach_Size_keep nf [PT.val (Ty.int IntKind.u8) (Md.bor true false)] [(Ty.int IntKind.i64, Md.bor false true)] Try.f136.results.toList (codeOf Try.f136) ⟨b, ()⟩ = mach_Size_p nf  b := by kernel_rfl
  exact h
def mach_Size_F (nf : Nat) (x : denPs [.val (.int .u8) (.bor true false)]) : Option (denL [(.int .i64, .bor false true)]) := mach_Size_f nf x.1
def mach_Size_C (nf : Nat) : Contract := ⟨[.val (.int .u8) (.bor true false)], [(.int .i64, .bor false true)], mach_Size_F nf⟩
theorem mach_Size_ok : FnOK Try.prog 136 := ⟨Try.f136, codeOf Try.f136, Try.func136, by kernel_rfl, by kernel_rfl⟩
theorem mach_Size_holds (nf : Nat) : Contract.Holds Try.prog 136 (mach_Size_C nf) :=
  fn_holds (Φ := mach_Size_phi nf) (keep := mach_Size_keep) (n := nf) ⟨tabs.1, tabs.2, ctx_nil, mixed⟩ (fn := Try.f136) ⟨Try.func136, by kernel_rfl, by kernel_rfl, by kernel_rfl⟩ (fun x => mach_Size_eq nf x.1)

/-! codemason mach.order -/
def mach_order_phi (nf : Nat) : Nat → Option Contract := lookC [(136, mach_Size_C nf)]
def mach_order_keep : Nat → List Nat := lookK []
def mach_order_p (nf : Nat)  (code' : List Int) (at' : Int) : Option ((Int × Int × Int × Int × Int × Unit) × Int × Bool × Unit) :=
  bif decide (at' ≥ (↑code'.length : Int)) then
    some (((0, 0, 0, 0, 0, ()), 0, false, ()))
  else
    bif inb at' code'.length then
      Option.bind (mach_Size_f nf (code'.getD at'.toNat 0)) fun r =>
      bif r.fst == 0 then
        some (((0, 0, 0, 0, 0, ()), 0, false, ()))
      else
        bif decide (IntKind.i64.wrap (at' + r.fst) > (↑code'.length : Int)) then
          some (((0, 0, 0, 0, 0, ()), 0, false, ()))
        else
          bif IntKind.i64.wrap (IntKind.u8.wrap (Int.tdiv (code'.getD at'.toNat 0) 8)) == 0 then
            some (((IntKind.i64.wrap (IntKind.u8.wrap (Int.tdiv (code'.getD at'.toNat 0) 8)), 0, 0, 0, 0, ()), r.fst, true, ()))
          else
            bif IntKind.i64.wrap (IntKind.u8.wrap (Int.tdiv (code'.getD at'.toNat 0) 8)) == 1 then
              bif inb (IntKind.i64.wrap (at' + 1)) code'.length then
                some (((IntKind.i64.wrap (IntKind.u8.wrap (Int.tdiv (code'.getD at'.toNat 0) 8)), 0, 0, 0, IntKind.i64.wrap (code'.getD (IntKind.i64.wrap (at' + 1)).toNat 0), ()), r.fst, true, ()))
              else
                none
            else
              bif IntKind.i64.wrap (IntKind.u8.wrap (Int.tdiv (code'.getD at'.toNat 0) 8)) == 8 then
                bif inb (IntKind.i64.wrap (at' + 1)) code'.length then
                  bif inb (IntKind.i64.wrap (at' + 2)) code'.length then
                    some (((IntKind.i64.wrap (IntKind.u8.wrap (Int.tdiv (code'.getD at'.toNat 0) 8)), 0, 0, 0, IntKind.i64.wrap (IntKind.i64.wrap (code'.getD (IntKind.i64.wrap (at' + 1)).toNat 0) + shlI IntKind.i64 (IntKind.i64.wrap (code'.getD (IntKind.i64.wrap (at' + 2)).toNat 0)) 8), ()), r.fst, true, ()))
                  else
                    none
                else
                  none
              else
                bif IntKind.i64.wrap (IntKind.u8.wrap (Int.tdiv (code'.getD at'.toNat 0) 8)) == 9 then
                  bif inb (IntKind.i64.wrap (at' + 1)) code'.length then
                    bif inb (IntKind.i64.wrap (at' + 2)) code'.length then
                      some (((IntKind.i64.wrap (IntKind.u8.wrap (Int.tdiv (code'.getD at'.toNat 0) 8)), IntKind.i64.wrap (Int.tmod (code'.getD at'.toNat 0) 8), 0, 0, IntKind.i64.wrap (IntKind.i64.wrap (code'.getD (IntKind.i64.wrap (at' + 1)).toNat 0) + shlI IntKind.i64 (IntKind.i64.wrap (code'.getD (IntKind.i64.wrap (at' + 2)).toNat 0)) 8), ()), r.fst, true, ()))
                    else
                      none
                  else
                    none
                else
                  some (((IntKind.i64.wrap (IntKind.u8.wrap (Int.tdiv (code'.getD at'.toNat 0) 8)), IntKind.i64.wrap (Int.tmod (code'.getD at'.toNat 0) 8), 0, 0, 0, ()), r.fst, true, ()))
    else
      none
def mach_order_f (nf : Nat) (code' : List Int) (at' : Int) : Option ((Int × Int × Int × Int × Int × Unit) × Int × Bool × Unit) := mach_order_p nf  code' at'
theorem mach_order_eq (nf : Nat) (code' : List Int) (at' : Int) : runF tab (mach_order_phi nf) mach_order_keep nf [PT.val (Ty.int IntKind.u8).sl (Md.bor true false), PT.val (Ty.int IntKind.i64) (Md.bor true false)] [((Ty.int IntKind.i64).pair ((Ty.int IntKind.i64).pair ((Ty.int IntKind.i64).pair ((Ty.int IntKind.i64).pair ((Ty.int IntKind.i64).pair Ty.unit)))), Md.bor false true), (Ty.int IntKind.i64, Md.bor false true), (Ty.bool, Md.bor false true)] Try.f111.results.toList (codeOf Try.f111) ⟨code', at', ()⟩ = mach_order_f nf code' at' := by
  have h : runF tab (mach_order_phi nf) mach_order_keep nf [PT.val (Ty.int IntKind.u8).sl (Md.bor true false), PT.val (Ty.int IntKind.i64) (Md.bor true false)] [((Ty.int IntKind.i64).pair ((Ty.int IntKind.i64).pair ((Ty.int IntKind.i64).pair ((Ty.int IntKind.i64).pair ((Ty.int IntKind.i64).pair Ty.unit)))), Md.bor false true), (Ty.int IntKind.i64, Md.bor false true), (Ty.bool, Md.bor false true)] Try.f111.results.toList (codeOf Try.f111) ⟨code', at', ()⟩ = mach_order_p nf  code' at' := by kernel_rfl
  exact h
def mach_order_F (nf : Nat) (x : denPs [.val (.sl (.int .u8)) (.bor true false), .val (.int .i64) (.bor true false)]) : Option (denL [(.pair (.int .i64) (.pair (.int .i64) (.pair (.int .i64) (.pair (.int .i64) (.pair (.int .i64) (.unit))))), .bor false true), (.int .i64, .bor false true), (.bool, .bor false true)]) := mach_order_f nf x.1 x.2.1
def mach_order_C (nf : Nat) : Contract := ⟨[.val (.sl (.int .u8)) (.bor true false), .val (.int .i64) (.bor true false)], [(.pair (.int .i64) (.pair (.int .i64) (.pair (.int .i64) (.pair (.int .i64) (.pair (.int .i64) (.unit))))), .bor false true), (.int .i64, .bor false true), (.bool, .bor false true)], mach_order_F nf⟩
theorem mach_order_ok : FnOK Try.prog 111 := ⟨Try.f111, codeOf Try.f111, Try.func111, by kernel_rfl, by kernel_rfl⟩
theorem mach_order_holds (nf : Nat) : Contract.Holds Try.prog 111 (mach_order_C nf) :=
  fn_holds (Φ := mach_order_phi nf) (keep := mach_order_keep) (n := nf) ⟨tabs.1, tabs.2, (ctx_cons mach_Size_ok (mach_Size_holds nf) ctx_nil), mixed⟩ (fn := Try.f111) ⟨Try.func111, by kernel_rfl, by kernel_rfl, by kernel_rfl⟩ (fun x => mach_order_eq nf x.1 x.2.1)

/-! codemason mach.Run -/
def mach_Run_phi (nf : Nat) : Nat → Option Contract := lookC [(68, term_Have_C nf), (111, mach_order_C nf), (112, term_Do_C nf)]
def mach_Run_keep : Nat → List Nat := lookK [(0, [0, 7, 8, 9, 26, 30])]
def mach_Run_b0 (nf : Nat) (code' : List Int) (g0 : List Int → Int → Int → Int → Option (List Int × Int × Unit)) (cell : List Int) (at' : Int) (box : Int) (t30 : Int) : Option (List Int × Int × Unit) :=
  bif decide (t30 < 20000) then
    Option.bind (mach_order_f nf code' at') fun r2 =>
    bif !r2.snd.snd.fst then
      some (([], 6, ()))
    else
      bif r2.fst.fst == 0 then
        some ((cell, 0, ()))
      else
        bif r2.fst.fst == 1 then
          g0 cell (IntKind.i64.wrap (at' + r2.snd.fst)) r2.fst.snd.snd.snd.snd.fst (IntKind.i64.wrap (t30 + 1))
        else
          bif r2.fst.fst == 2 then
            bif inb r2.fst.snd.fst cell.length then
              g0 cell (IntKind.i64.wrap (at' + r2.snd.fst)) (cell.getD (Int.toNat r2.fst.snd.fst) 0) (IntKind.i64.wrap (t30 + 1))
            else
              none
          else
            bif r2.fst.fst == 3 then
              bif inb r2.fst.snd.fst cell.length then
                g0 (cell.set (Int.toNat r2.fst.snd.fst) box) (IntKind.i64.wrap (at' + r2.snd.fst)) box (IntKind.i64.wrap (t30 + 1))
              else
                none
            else
              bif r2.fst.fst == 8 then
                g0 cell r2.fst.snd.snd.snd.snd.fst box (IntKind.i64.wrap (t30 + 1))
              else
                bif r2.fst.fst == 9 then
                  bif inb r2.fst.snd.fst cell.length then
                    bif cell.getD (Int.toNat r2.fst.snd.fst) 0 == 0 then
                      g0 cell r2.fst.snd.snd.snd.snd.fst box (IntKind.i64.wrap (t30 + 1))
                    else
                      g0 cell (IntKind.i64.wrap (at' + r2.snd.fst)) box (IntKind.i64.wrap (t30 + 1))
                  else
                    none
                else
                  bif inb r2.fst.snd.fst cell.length then
                    Option.bind (term_Do_f nf (IntKind.i64.wrap (IntKind.i64.wrap (r2.fst.fst - 4) + 3)) box (cell.getD (Int.toNat r2.fst.snd.fst) 0)) fun r3 =>
                    g0 cell (IntKind.i64.wrap (at' + r2.snd.fst)) r3.fst (IntKind.i64.wrap (t30 + 1))
                  else
                    none
  else
    some (([], 7, ()))
def mach_Run_p (nf : Nat) (l0 : List Int → List Int → Int → Int → Int → Option (List Int × Int × Unit)) (code' : List Int) (have' : List Int) : Option (List Int × Int × Unit) :=
  bif decide ((↑code'.length : Int) > 400) then
    some (([], 1, ()))
  else
    bif decide ((↑have'.length : Int) > 6) then
      some (([], 3, ()))
    else
      Option.bind (term_Have_f nf ((↑have'.length : Int)) have') fun r =>
      bif r.fst != 0 then
        some (([], r.fst, ()))
      else
        l0 code' (List.take 0 (List.replicate 6 0) ++ (List.take ((none.getD (List.replicate 6 0).length).min have'.length) have' ++ List.drop (0 + (none.getD (List.replicate 6 0).length).min have'.length) (List.replicate 6 0))) 0 0 0
def mach_Run_l0 (nf : Nat) (code' : List Int) : Nat → List Int → Int → Int → Int → Option (List Int × Int × Unit)
  | 0, _, _, _, _ => none
  | fu + 1, cell, at', box, t30 => mach_Run_b0 nf  code'  (mach_Run_l0 nf code'  fu) cell at' box t30
def mach_Run_f (nf : Nat) (code' : List Int) (have' : List Int) : Option (List Int × Int × Unit) := mach_Run_p nf (fun p0 v0 v1 v2 v3 => mach_Run_l0 nf p0 nf v0 v1 v2 v3) code' have'
noncomputable def mach_Run_L0 (nf : Nat) : LC (List Int × Int × Unit) := theL (findL tab (mach_Run_phi nf) (fun _ F => iter nf F) mach_Run_keep 0 0 (codeOf Try.f61) (fin tab [((Ty.int IntKind.i64).sl, Md.own false (Md.bor false false)), (Ty.int IntKind.i64, Md.bor false true)] Try.f61.results.toList) (fun _ _ => none) (fin tab [((Ty.int IntKind.i64).sl, Md.own false (Md.bor false false)), (Ty.int IntKind.i64, Md.bor false true)] Try.f61.results.toList))
def mach_Run_m0 (code' : List Int) (cell : List Int) (at' : Int) (box : Int) (t30 : Int) : St := ⟨fresh, [(0, AV.v (Ty.int IntKind.u8).sl (Md.bor true false) code'), (7, AV.ow 500007 (Ty.int IntKind.i64).sl (Md.own false (Md.bor false false)) cell), (8, AV.v (Ty.int IntKind.i64) (Md.bor false true) at'), (9, AV.v (Ty.int IntKind.i64) (Md.bor false true) box), (26, AV.dead), (30, AV.v (Ty.int IntKind.i64) (Md.bor false true) t30)]⟩
theorem mach_Run_h0 (nf : Nat)  (code' : List Int) (fu : Nat) (cell : List Int) (at' : Int) (box : Int) (t30 : Int) : iter (fu + 1) (LC.F tab (mach_Run_phi nf) (fun _ F => iter nf F) mach_Run_keep 0 (mach_Run_L0 nf )) (mach_Run_m0 code' cell at' box t30) = mach_Run_b0 nf  code'  (fun cell at' box t30 => iter fu (LC.F tab (mach_Run_phi nf) (fun _ F => iter nf F) mach_Run_keep 0 (mach_Run_L0 nf )) (mach_Run_m0 code' cell at' box t30)) cell at' box t30 := by kernel_rfl
theorem mach_Run_e0 (nf : Nat)  (code' : List Int) : ∀ (fu : Nat) (cell : List Int) (at' : Int) (box : Int) (t30 : Int), iter fu (LC.F tab (mach_Run_phi nf) (fun _ F => iter nf F) mach_Run_keep 0 (mach_Run_L0 nf )) (mach_Run_m0 code' cell at' box t30) = mach_Run_l0 nf code'  fu cell at' box t30 := by
  intro fu
  induction fu with
  | zero => intros; rfl
  | succ fu ih =>
    intro cell at' box t30
    rw [mach_Run_h0 nf  code' fu cell at' box t30]
    simp only [ih]
    rfl
theorem mach_Run_eq (nf : Nat) (code' : List Int) (have' : List Int) : runF tab (mach_Run_phi nf) mach_Run_keep nf [PT.val (Ty.int IntKind.u8).sl (Md.bor true false), PT.val (Ty.int IntKind.i64).sl (Md.bor true false)] [((Ty.int IntKind.i64).sl, Md.own false (Md.bor false false)), (Ty.int IntKind.i64, Md.bor false true)] Try.f61.results.toList (codeOf Try.f61) ⟨code', have', ()⟩ = mach_Run_f nf code' have' := by
  have h : runF tab (mach_Run_phi nf) mach_Run_keep nf [PT.val (Ty.int IntKind.u8).sl (Md.bor true false), PT.val (Ty.int IntKind.i64).sl (Md.bor true false)] [((Ty.int IntKind.i64).sl, Md.own false (Md.bor false false)), (Ty.int IntKind.i64, Md.bor false true)] Try.f61.results.toList (codeOf Try.f61) ⟨code', have', ()⟩ = mach_Run_p nf (fun p0 v0 v1 v2 v3 => iter nf (LC.F tab (mach_Run_phi nf) (fun _ F => iter nf F) mach_Run_keep 0 (mach_Run_L0 nf)) (mach_Run_m0 p0 v0 v1 v2 v3)) code' have' := by kernel_rfl
  rw [h]
  simp only [mach_Run_e0]
  rfl
def mach_Run_F (nf : Nat) (x : denPs [.val (.sl (.int .u8)) (.bor true false), .val (.sl (.int .i64)) (.bor true false)]) : Option (denL [(.sl (.int .i64), .own false (.bor false false)), (.int .i64, .bor false true)]) := mach_Run_f nf x.1 x.2.1
def mach_Run_C (nf : Nat) : Contract := ⟨[.val (.sl (.int .u8)) (.bor true false), .val (.sl (.int .i64)) (.bor true false)], [(.sl (.int .i64), .own false (.bor false false)), (.int .i64, .bor false true)], mach_Run_F nf⟩
theorem mach_Run_ok : FnOK Try.prog 61 := ⟨Try.f61, codeOf Try.f61, Try.func61, by kernel_rfl, by kernel_rfl⟩
theorem mach_Run_holds (nf : Nat) : Contract.Holds Try.prog 61 (mach_Run_C nf) :=
  fn_holds (Φ := mach_Run_phi nf) (keep := mach_Run_keep) (n := nf) ⟨tabs.1, tabs.2, (ctx_cons term_Have_ok (term_Have_holds nf) (ctx_cons mach_order_ok (mach_order_holds nf) (ctx_cons term_Do_ok (term_Do_holds nf) ctx_nil))), mixed⟩ (fn := Try.f61) ⟨Try.func61, by kernel_rfl, by kernel_rfl, by kernel_rfl⟩ (fun x => mach_Run_eq nf x.1 x.2.1)

/-! codemason codemasonref.OrderSize -/
def ref_OrderSize_phi (nf : Nat) : Nat → Option Contract := lookC []
def ref_OrderSize_keep : Nat → List Nat := lookK []
def ref_OrderSize_p (nf : Nat)  (b : Int) : Option (Int × Unit) :=
  bif decide (IntKind.i64.wrap ((IntKind.i64.wrap b).tdiv 8) ≥ (↑[1, 2, 1, 1, 1, 1, 1, 1, 3, 3].length : Int)) then
    some ((0, ()))
  else
    bif decide (IntKind.i64.wrap ((IntKind.i64.wrap b).tdiv 8) ≥ 2) then
      bif decide (IntKind.i64.wrap ((IntKind.i64.wrap b).tdiv 8) ≤ 7) then
        bif decide ((IntKind.i64.wrap b).tmod 8 ≥ 6) then
          some ((0, ()))
        else
          bif inb (IntKind.i64.wrap ((IntKind.i64.wrap b).tdiv 8)) [1, 2, 1, 1, 1, 1, 1, 1, 3, 3].length then
            some (([1, 2, 1, 1, 1, 1, 1, 1, 3, 3].getD (IntKind.i64.wrap ((IntKind.i64.wrap b).tdiv 8)).toNat 0, ()))
          else
            none
      else
        bif IntKind.i64.wrap ((IntKind.i64.wrap b).tdiv 8) == 9 then
          bif decide ((IntKind.i64.wrap b).tmod 8 ≥ 6) then
            some ((0, ()))
          else
            bif inb (IntKind.i64.wrap ((IntKind.i64.wrap b).tdiv 8)) [1, 2, 1, 1, 1, 1, 1, 1, 3, 3].length then
              some (([1, 2, 1, 1, 1, 1, 1, 1, 3, 3].getD (IntKind.i64.wrap ((IntKind.i64.wrap b).tdiv 8)).toNat 0, ()))
            else
              none
        else
          bif inb (IntKind.i64.wrap ((IntKind.i64.wrap b).tdiv 8)) [1, 2, 1, 1, 1, 1, 1, 1, 3, 3].length then
            some (([1, 2, 1, 1, 1, 1, 1, 1, 3, 3].getD (IntKind.i64.wrap ((IntKind.i64.wrap b).tdiv 8)).toNat 0, ()))
          else
            none
    else
      bif IntKind.i64.wrap ((IntKind.i64.wrap b).tdiv 8) == 9 then
        bif decide ((IntKind.i64.wrap b).tmod 8 ≥ 6) then
          some ((0, ()))
        else
          bif inb (IntKind.i64.wrap ((IntKind.i64.wrap b).tdiv 8)) [1, 2, 1, 1, 1, 1, 1, 1, 3, 3].length then
            some (([1, 2, 1, 1, 1, 1, 1, 1, 3, 3].getD (IntKind.i64.wrap ((IntKind.i64.wrap b).tdiv 8)).toNat 0, ()))
          else
            none
      else
        bif inb (IntKind.i64.wrap ((IntKind.i64.wrap b).tdiv 8)) [1, 2, 1, 1, 1, 1, 1, 1, 3, 3].length then
          some (([1, 2, 1, 1, 1, 1, 1, 1, 3, 3].getD (IntKind.i64.wrap ((IntKind.i64.wrap b).tdiv 8)).toNat 0, ()))
        else
          none
def ref_OrderSize_f (nf : Nat) (b : Int) : Option (Int × Unit) := ref_OrderSize_p nf  b
theorem ref_OrderSize_eq (nf : Nat) (b : Int) : runF tab (ref_OrderSize_phi nf) ref_OrderSize_keep nf [PT.val (Ty.int IntKind.u8) (Md.bor true false)] [(Ty.int IntKind.i64, Md.bor false true)] Try.f113.results.toList (codeOf Try.f113) ⟨b, ()⟩ = ref_OrderSize_f nf b := by
  have h : runF tab (ref_OrderSize_phi nf) ref_OrderSize_keep nf [PT.val (Ty.int IntKind.u8) (Md.bor true false)] [(Ty.int IntKind.i64, Md.bor false true)] Try.f113.results.toList (codeOf Try.f113) ⟨b, ()⟩ = ref_OrderSize_p nf  b := by kernel_rfl
  exact h
def ref_OrderSize_F (nf : Nat) (x : denPs [.val (.int .u8) (.bor true false)]) : Option (denL [(.int .i64, .bor false true)]) := ref_OrderSize_f nf x.1
def ref_OrderSize_C (nf : Nat) : Contract := ⟨[.val (.int .u8) (.bor true false)], [(.int .i64, .bor false true)], ref_OrderSize_F nf⟩
theorem ref_OrderSize_ok : FnOK Try.prog 113 := ⟨Try.f113, codeOf Try.f113, Try.func113, by kernel_rfl, by kernel_rfl⟩
theorem ref_OrderSize_holds (nf : Nat) : Contract.Holds Try.prog 113 (ref_OrderSize_C nf) :=
  fn_holds (Φ := ref_OrderSize_phi nf) (keep := ref_OrderSize_keep) (n := nf) ⟨tabs.1, tabs.2, ctx_nil, mixed⟩ (fn := Try.f113) ⟨Try.func113, by kernel_rfl, by kernel_rfl, by kernel_rfl⟩ (fun x => ref_OrderSize_eq nf x.1)

/-! codemason codemasonref.Machine -/
def ref_Machine_phi (nf : Nat) : Nat → Option Contract := lookC [(113, ref_OrderSize_C nf), (114, ref_Op_C nf)]
def ref_Machine_keep : Nat → List Nat := lookK [(2, [0, 6, 9, 10, 11, 17]), (0, [0, 1, 6, 17, 18, 19, 20])]
def ref_Machine_b0 (nf : Nat) (l2 : List Int → List Int → Int → Int → Int → Option (List Int × Int × Unit)) (code' : List Int) (have' : List Int) (g0 : List Int → Int → Option (List Int × Int × Unit)) (cells : List Int) (t20 : Int) : Option (List Int × Int × Unit) :=
  bif decide (t20 < (↑have'.length : Int)) then
    bif inb t20 have'.length then
      bif inb t20 cells.length then
        g0 (cells.set t20.toNat (have'.getD t20.toNat 0)) (IntKind.i64.wrap (t20 + 1))
      else
        none
    else
      none
  else
    l2 code' cells 0 0 0
def ref_Machine_b2 (nf : Nat) (code' : List Int) (g2 : List Int → Int → Int → Int → Option (List Int × Int × Unit)) (cells2 : List Int) (at' : Int) (box : Int) (k' : Int) : Option (List Int × Int × Unit) :=
  bif decide (k' < 20000) then
    bif decide (at' ≥ (↑code'.length : Int)) then
      some (([], 6, ()))
    else
      bif inb at' code'.length then
        Option.bind (ref_OrderSize_f nf (code'.getD at'.toNat 0)) fun r =>
        bif r.fst == 0 then
          some (([], 6, ()))
        else
          bif decide (IntKind.i64.wrap (at' + r.fst) > (↑code'.length : Int)) then
            some (([], 6, ()))
          else
            bif inb at' code'.length then
              bif inb at' code'.length then
                bif r.fst == 3 then
                  bif inb (IntKind.i64.wrap (at' + 1)) code'.length then
                    bif inb (IntKind.i64.wrap (at' + 2)) code'.length then
                      bif IntKind.i64.wrap ((IntKind.i64.wrap (code'.getD at'.toNat 0)).tdiv 8) == 0 then
                        some ((cells2, 0, ()))
                      else
                        bif IntKind.i64.wrap ((IntKind.i64.wrap (code'.getD at'.toNat 0)).tdiv 8) == 1 then
                          bif inb (IntKind.i64.wrap (at' + 1)) code'.length then
                            g2 cells2 (IntKind.i64.wrap (at' + r.fst)) (IntKind.i64.wrap (code'.getD (IntKind.i64.wrap (at' + 1)).toNat 0)) (IntKind.i64.wrap (k' + 1))
                          else
                            none
                        else
                          bif IntKind.i64.wrap ((IntKind.i64.wrap (code'.getD at'.toNat 0)).tdiv 8) == 2 then
                            bif inb ((IntKind.i64.wrap (code'.getD at'.toNat 0)).tmod 8) cells2.length then
                              g2 cells2 (IntKind.i64.wrap (at' + r.fst)) (cells2.getD ((IntKind.i64.wrap (code'.getD at'.toNat 0)).tmod 8).toNat 0) (IntKind.i64.wrap (k' + 1))
                            else
                              none
                          else
                            bif IntKind.i64.wrap ((IntKind.i64.wrap (code'.getD at'.toNat 0)).tdiv 8) == 3 then
                              bif inb ((IntKind.i64.wrap (code'.getD at'.toNat 0)).tmod 8) cells2.length then
                                g2 (cells2.set ((IntKind.i64.wrap (code'.getD at'.toNat 0)).tmod 8).toNat box) (IntKind.i64.wrap (at' + r.fst)) box (IntKind.i64.wrap (k' + 1))
                              else
                                none
                            else
                              bif IntKind.i64.wrap ((IntKind.i64.wrap (code'.getD at'.toNat 0)).tdiv 8) == 8 then
                                g2 cells2 (IntKind.i64.wrap (IntKind.i64.wrap (code'.getD (IntKind.i64.wrap (at' + 1)).toNat 0) + IntKind.i64.wrap (256 * IntKind.i64.wrap (code'.getD (IntKind.i64.wrap (at' + 2)).toNat 0)))) box (IntKind.i64.wrap (k' + 1))
                              else
                                bif IntKind.i64.wrap ((IntKind.i64.wrap (code'.getD at'.toNat 0)).tdiv 8) == 9 then
                                  bif inb ((IntKind.i64.wrap (code'.getD at'.toNat 0)).tmod 8) cells2.length then
                                    bif cells2.getD ((IntKind.i64.wrap (code'.getD at'.toNat 0)).tmod 8).toNat 0 == 0 then
                                      g2 cells2 (IntKind.i64.wrap (IntKind.i64.wrap (code'.getD (IntKind.i64.wrap (at' + 1)).toNat 0) + IntKind.i64.wrap (256 * IntKind.i64.wrap (code'.getD (IntKind.i64.wrap (at' + 2)).toNat 0)))) box (IntKind.i64.wrap (k' + 1))
                                    else
                                      g2 cells2 (IntKind.i64.wrap (at' + r.fst)) box (IntKind.i64.wrap (k' + 1))
                                  else
                                    none
                                else
                                  bif inb ((IntKind.i64.wrap (code'.getD at'.toNat 0)).tmod 8) cells2.length then
                                    Option.bind (ref_Op_f nf (IntKind.i64.wrap (IntKind.i64.wrap (3 + IntKind.i64.wrap ((IntKind.i64.wrap (code'.getD at'.toNat 0)).tdiv 8)) - 4)) box (cells2.getD ((IntKind.i64.wrap (code'.getD at'.toNat 0)).tmod 8).toNat 0)) fun r2 =>
                                    g2 cells2 (IntKind.i64.wrap (at' + r.fst)) r2.fst (IntKind.i64.wrap (k' + 1))
                                  else
                                    none
                    else
                      none
                  else
                    none
                else
                  bif IntKind.i64.wrap ((IntKind.i64.wrap (code'.getD at'.toNat 0)).tdiv 8) == 0 then
                    some ((cells2, 0, ()))
                  else
                    bif IntKind.i64.wrap ((IntKind.i64.wrap (code'.getD at'.toNat 0)).tdiv 8) == 1 then
                      bif inb (IntKind.i64.wrap (at' + 1)) code'.length then
                        g2 cells2 (IntKind.i64.wrap (at' + r.fst)) (IntKind.i64.wrap (code'.getD (IntKind.i64.wrap (at' + 1)).toNat 0)) (IntKind.i64.wrap (k' + 1))
                      else
                        none
                    else
                      bif IntKind.i64.wrap ((IntKind.i64.wrap (code'.getD at'.toNat 0)).tdiv 8) == 2 then
                        bif inb ((IntKind.i64.wrap (code'.getD at'.toNat 0)).tmod 8) cells2.length then
                          g2 cells2 (IntKind.i64.wrap (at' + r.fst)) (cells2.getD ((IntKind.i64.wrap (code'.getD at'.toNat 0)).tmod 8).toNat 0) (IntKind.i64.wrap (k' + 1))
                        else
                          none
                      else
                        bif IntKind.i64.wrap ((IntKind.i64.wrap (code'.getD at'.toNat 0)).tdiv 8) == 3 then
                          bif inb ((IntKind.i64.wrap (code'.getD at'.toNat 0)).tmod 8) cells2.length then
                            g2 (cells2.set ((IntKind.i64.wrap (code'.getD at'.toNat 0)).tmod 8).toNat box) (IntKind.i64.wrap (at' + r.fst)) box (IntKind.i64.wrap (k' + 1))
                          else
                            none
                        else
                          bif IntKind.i64.wrap ((IntKind.i64.wrap (code'.getD at'.toNat 0)).tdiv 8) == 8 then
                            g2 cells2 0 box (IntKind.i64.wrap (k' + 1))
                          else
                            bif IntKind.i64.wrap ((IntKind.i64.wrap (code'.getD at'.toNat 0)).tdiv 8) == 9 then
                              bif inb ((IntKind.i64.wrap (code'.getD at'.toNat 0)).tmod 8) cells2.length then
                                bif cells2.getD ((IntKind.i64.wrap (code'.getD at'.toNat 0)).tmod 8).toNat 0 == 0 then
                                  g2 cells2 0 box (IntKind.i64.wrap (k' + 1))
                                else
                                  g2 cells2 (IntKind.i64.wrap (at' + r.fst)) box (IntKind.i64.wrap (k' + 1))
                              else
                                none
                            else
                              bif inb ((IntKind.i64.wrap (code'.getD at'.toNat 0)).tmod 8) cells2.length then
                                Option.bind (ref_Op_f nf (IntKind.i64.wrap (IntKind.i64.wrap (3 + IntKind.i64.wrap ((IntKind.i64.wrap (code'.getD at'.toNat 0)).tdiv 8)) - 4)) box (cells2.getD ((IntKind.i64.wrap (code'.getD at'.toNat 0)).tmod 8).toNat 0)) fun r3 =>
                                g2 cells2 (IntKind.i64.wrap (at' + r.fst)) r3.fst (IntKind.i64.wrap (k' + 1))
                              else
                                none
              else
                none
            else
              none
      else
        none
  else
    some (([], 7, ()))
def ref_Machine_p (nf : Nat) (l0 : List Int → List Int → List Int → Int → Option (List Int × Int × Unit)) (code' : List Int) (have' : List Int) : Option (List Int × Int × Unit) :=
  l0 code' have' (List.replicate 6 0) 0
def ref_Machine_l2 (nf : Nat) (code' : List Int) : Nat → List Int → Int → Int → Int → Option (List Int × Int × Unit)
  | 0, _, _, _, _ => none
  | fu + 1, cells2, at', box, k' => ref_Machine_b2 nf  code'  (ref_Machine_l2 nf code'  fu) cells2 at' box k'
def ref_Machine_l0 (nf : Nat) (code' : List Int) (have' : List Int) : Nat → List Int → Int → Option (List Int × Int × Unit)
  | 0, _, _ => none
  | fu + 1, cells, t20 => ref_Machine_b0 nf (fun _ v0 v1 v2 v3 => ref_Machine_l2 nf code'  nf v0 v1 v2 v3) code' have'  (ref_Machine_l0 nf code' have'  fu) cells t20
def ref_Machine_f (nf : Nat) (code' : List Int) (have' : List Int) : Option (List Int × Int × Unit) := ref_Machine_p nf (fun p0 p1 v0 v1 => ref_Machine_l0 nf p0 p1 nf v0 v1) code' have'
noncomputable def ref_Machine_L0 (nf : Nat) : LC (List Int × Int × Unit) := theL (findL tab (ref_Machine_phi nf) (fun _ F => iter nf F) ref_Machine_keep 0 0 (codeOf Try.f62) (fin tab [((Ty.int IntKind.i64).sl, Md.own false (Md.bor false false)), (Ty.int IntKind.i64, Md.bor false true)] Try.f62.results.toList) (fun _ _ => none) (fin tab [((Ty.int IntKind.i64).sl, Md.own false (Md.bor false false)), (Ty.int IntKind.i64, Md.bor false true)] Try.f62.results.toList))
def ref_Machine_m0 (code' : List Int) (have' : List Int) (cells : List Int) (t20 : Int) : St := ⟨fresh, [(0, AV.v (Ty.int IntKind.u8).sl (Md.bor true false) code'), (1, AV.v (Ty.int IntKind.i64).sl (Md.bor true false) have'), (6, AV.ow 500006 (Ty.int IntKind.i64).sl (Md.own false (Md.bor false false)) cells), (17, AV.dead), (18, AV.v (Ty.int IntKind.i64).sl (Md.bor true false) have'), (19, AV.v (Ty.int IntKind.i64) (Md.bor false true) (↑have'.length : Int)), (20, AV.v (Ty.int IntKind.i64) (Md.bor false true) t20)]⟩
noncomputable def ref_Machine_L2 (nf : Nat) : LC (List Int × Int × Unit) := theL (findL tab (ref_Machine_phi nf) (fun _ F => iter nf F) ref_Machine_keep 2 0 (codeOf Try.f62) (fin tab [((Ty.int IntKind.i64).sl, Md.own false (Md.bor false false)), (Ty.int IntKind.i64, Md.bor false true)] Try.f62.results.toList) (fun _ _ => none) (fin tab [((Ty.int IntKind.i64).sl, Md.own false (Md.bor false false)), (Ty.int IntKind.i64, Md.bor false true)] Try.f62.results.toList))
def ref_Machine_m2 (code' : List Int) (cells2 : List Int) (at' : Int) (box : Int) (k' : Int) : St := ⟨fresh, [(0, AV.v (Ty.int IntKind.u8).sl (Md.bor true false) code'), (6, AV.ow 500006 (Ty.int IntKind.i64).sl (Md.own false (Md.bor false false)) cells2), (9, AV.v (Ty.int IntKind.i64) (Md.bor false true) at'), (10, AV.v (Ty.int IntKind.i64) (Md.bor false true) box), (11, AV.v (Ty.int IntKind.i64) (Md.bor false true) k'), (17, AV.dead)]⟩
theorem ref_Machine_h2 (nf : Nat)  (code' : List Int) (fu : Nat) (cells2 : List Int) (at' : Int) (box : Int) (k' : Int) : iter (fu + 1) (LC.F tab (ref_Machine_phi nf) (fun _ F => iter nf F) ref_Machine_keep 2 (ref_Machine_L2 nf )) (ref_Machine_m2 code' cells2 at' box k') = ref_Machine_b2 nf  code'  (fun cells2 at' box k' => iter fu (LC.F tab (ref_Machine_phi nf) (fun _ F => iter nf F) ref_Machine_keep 2 (ref_Machine_L2 nf )) (ref_Machine_m2 code' cells2 at' box k')) cells2 at' box k' := by kernel_rfl
theorem ref_Machine_e2 (nf : Nat)  (code' : List Int) : ∀ (fu : Nat) (cells2 : List Int) (at' : Int) (box : Int) (k' : Int), iter fu (LC.F tab (ref_Machine_phi nf) (fun _ F => iter nf F) ref_Machine_keep 2 (ref_Machine_L2 nf )) (ref_Machine_m2 code' cells2 at' box k') = ref_Machine_l2 nf code'  fu cells2 at' box k' := by
  intro fu
  induction fu with
  | zero => intros; rfl
  | succ fu ih =>
    intro cells2 at' box k'
    rw [ref_Machine_h2 nf  code' fu cells2 at' box k']
    simp only [ih]
    rfl
theorem ref_Machine_h0 (nf : Nat)  (code' : List Int) (have' : List Int) (fu : Nat) (cells : List Int) (t20 : Int) : iter (fu + 1) (LC.F tab (ref_Machine_phi nf) (fun _ F => iter nf F) ref_Machine_keep 0 (ref_Machine_L0 nf )) (ref_Machine_m0 code' have' cells t20) = ref_Machine_b0 nf (fun _ v0 v1 v2 v3 => iter nf (LC.F tab (ref_Machine_phi nf) (fun _ F => iter nf F) ref_Machine_keep 2 (ref_Machine_L2 nf )) (ref_Machine_m2 code' v0 v1 v2 v3)) code' have'  (fun cells t20 => iter fu (LC.F tab (ref_Machine_phi nf) (fun _ F => iter nf F) ref_Machine_keep 0 (ref_Machine_L0 nf )) (ref_Machine_m0 code' have' cells t20)) cells t20 := by kernel_rfl
theorem ref_Machine_e0 (nf : Nat)  (code' : List Int) (have' : List Int) : ∀ (fu : Nat) (cells : List Int) (t20 : Int), iter fu (LC.F tab (ref_Machine_phi nf) (fun _ F => iter nf F) ref_Machine_keep 0 (ref_Machine_L0 nf )) (ref_Machine_m0 code' have' cells t20) = ref_Machine_l0 nf code' have'  fu cells t20 := by
  intro fu
  induction fu with
  | zero => intros; rfl
  | succ fu ih =>
    intro cells t20
    rw [ref_Machine_h0 nf  code' have' fu cells t20]
    simp only [ih, ref_Machine_e2]
    rfl
theorem ref_Machine_eq (nf : Nat) (code' : List Int) (have' : List Int) : runF tab (ref_Machine_phi nf) ref_Machine_keep nf [PT.val (Ty.int IntKind.u8).sl (Md.bor true false), PT.val (Ty.int IntKind.i64).sl (Md.bor true false)] [((Ty.int IntKind.i64).sl, Md.own false (Md.bor false false)), (Ty.int IntKind.i64, Md.bor false true)] Try.f62.results.toList (codeOf Try.f62) ⟨code', have', ()⟩ = ref_Machine_f nf code' have' := by
  have h : runF tab (ref_Machine_phi nf) ref_Machine_keep nf [PT.val (Ty.int IntKind.u8).sl (Md.bor true false), PT.val (Ty.int IntKind.i64).sl (Md.bor true false)] [((Ty.int IntKind.i64).sl, Md.own false (Md.bor false false)), (Ty.int IntKind.i64, Md.bor false true)] Try.f62.results.toList (codeOf Try.f62) ⟨code', have', ()⟩ = ref_Machine_p nf (fun p0 p1 v0 v1 => iter nf (LC.F tab (ref_Machine_phi nf) (fun _ F => iter nf F) ref_Machine_keep 0 (ref_Machine_L0 nf)) (ref_Machine_m0 p0 p1 v0 v1)) code' have' := by kernel_rfl
  rw [h]
  simp only [ref_Machine_e0]
  rfl
def ref_Machine_F (nf : Nat) (x : denPs [.val (.sl (.int .u8)) (.bor true false), .val (.sl (.int .i64)) (.bor true false)]) : Option (denL [(.sl (.int .i64), .own false (.bor false false)), (.int .i64, .bor false true)]) := ref_Machine_f nf x.1 x.2.1
def ref_Machine_C (nf : Nat) : Contract := ⟨[.val (.sl (.int .u8)) (.bor true false), .val (.sl (.int .i64)) (.bor true false)], [(.sl (.int .i64), .own false (.bor false false)), (.int .i64, .bor false true)], ref_Machine_F nf⟩
theorem ref_Machine_ok : FnOK Try.prog 62 := ⟨Try.f62, codeOf Try.f62, Try.func62, by kernel_rfl, by kernel_rfl⟩
theorem ref_Machine_holds (nf : Nat) : Contract.Holds Try.prog 62 (ref_Machine_C nf) :=
  fn_holds (Φ := ref_Machine_phi nf) (keep := ref_Machine_keep) (n := nf) ⟨tabs.1, tabs.2, (ctx_cons ref_OrderSize_ok (ref_OrderSize_holds nf) (ctx_cons ref_Op_ok (ref_Op_holds nf) ctx_nil)), mixed⟩ (fn := Try.f62) ⟨Try.func62, by kernel_rfl, by kernel_rfl, by kernel_rfl⟩ (fun x => ref_Machine_eq nf x.1 x.2.1)

/-! codemason codemasonlaw.MachRuns -/
def law_MachRuns_phi (nf : Nat) : Nat → Option Contract := lookC [(27, ref_Ints_C nf), (50, ref_HaveCheck_C nf), (61, mach_Run_C nf), (62, ref_Machine_C nf)]
def law_MachRuns_keep : Nat → List Nat := lookK []
def law_MachRuns_p (nf : Nat)  (code' : List Int) (have' : List Int) : Option (Bool × Unit) :=
  Option.bind (mach_Run_f nf code' have') fun r =>
  bif decide ((↑code'.length : Int) > 400) then
    bif r.snd.fst == 1 then
      Option.bind (ref_Ints_f nf r.fst ([])) fun r2 =>
      some ((r2.fst, ()))
    else
      some ((false, ()))
  else
    bif decide ((↑have'.length : Int) > 6) then
      bif r.snd.fst == 3 then
        Option.bind (ref_Ints_f nf r.fst ([])) fun r3 =>
        some ((r3.fst, ()))
      else
        some ((false, ()))
    else
      Option.bind (ref_HaveCheck_f nf ((↑have'.length : Int)) have') fun r4 =>
      bif r4.fst == 0 then
        Option.bind (ref_Machine_f nf code' have') fun r5 =>
        bif r.snd.fst == r5.snd.fst then
          Option.bind (ref_Ints_f nf r.fst r5.fst) fun r6 =>
          some ((r6.fst, ()))
        else
          some ((false, ()))
      else
        bif r.snd.fst == r4.fst then
          Option.bind (ref_Ints_f nf r.fst ([])) fun r7 =>
          some ((r7.fst, ()))
        else
          some ((false, ()))
def law_MachRuns_f (nf : Nat) (code' : List Int) (have' : List Int) : Option (Bool × Unit) := law_MachRuns_p nf  code' have'
theorem law_MachRuns_eq (nf : Nat) (code' : List Int) (have' : List Int) : runF tab (law_MachRuns_phi nf) law_MachRuns_keep nf [PT.val (Ty.int IntKind.u8).sl (Md.bor true false), PT.val (Ty.int IntKind.i64).sl (Md.bor true false)] [(Ty.bool, Md.bor false true)] Try.f17.results.toList (codeOf Try.f17) ⟨code', have', ()⟩ = law_MachRuns_f nf code' have' := by
  have h : runF tab (law_MachRuns_phi nf) law_MachRuns_keep nf [PT.val (Ty.int IntKind.u8).sl (Md.bor true false), PT.val (Ty.int IntKind.i64).sl (Md.bor true false)] [(Ty.bool, Md.bor false true)] Try.f17.results.toList (codeOf Try.f17) ⟨code', have', ()⟩ = law_MachRuns_p nf  code' have' := by kernel_rfl
  exact h
def law_MachRuns_F (nf : Nat) (x : denPs [.val (.sl (.int .u8)) (.bor true false), .val (.sl (.int .i64)) (.bor true false)]) : Option (denL [(.bool, .bor false true)]) := law_MachRuns_f nf x.1 x.2.1
def law_MachRuns_C (nf : Nat) : Contract := ⟨[.val (.sl (.int .u8)) (.bor true false), .val (.sl (.int .i64)) (.bor true false)], [(.bool, .bor false true)], law_MachRuns_F nf⟩
theorem law_MachRuns_ok : FnOK Try.prog 17 := ⟨Try.f17, codeOf Try.f17, Try.func17, by kernel_rfl, by kernel_rfl⟩
theorem law_MachRuns_holds (nf : Nat) : Contract.Holds Try.prog 17 (law_MachRuns_C nf) :=
  fn_holds (Φ := law_MachRuns_phi nf) (keep := law_MachRuns_keep) (n := nf) ⟨tabs.1, tabs.2, (ctx_cons ref_Ints_ok (ref_Ints_holds nf) (ctx_cons ref_HaveCheck_ok (ref_HaveCheck_holds nf) (ctx_cons mach_Run_ok (mach_Run_holds nf) (ctx_cons ref_Machine_ok (ref_Machine_holds nf) ctx_nil)))), mixed⟩ (fn := Try.f17) ⟨Try.func17, by kernel_rfl, by kernel_rfl, by kernel_rfl⟩ (fun x => law_MachRuns_eq nf x.1 x.2.1)
end Go.Proofs.Ytokjogplnoeicaa.S
