/- The functions of the code, as plain functions, and the theorems that say so: made by a program of this proof's own. -/
import Derived.Test.YtokjogplnoeicaaAbCheck
import Derived.Test.YtokjogplnoeicaaChecked
namespace Go.Proofs.Ytokjogplnoeicaa.S
open Go Go.Ab
noncomputable section
def bkl : List (Nat × Bk) := [(77, .mk 121 81), (121, .gen 81)]
def tyL : List (Nat × Ty) := [(2, .int .i64), (3, .int .i64), (4, .bool), (5, .int .u8), (6, .int .u8), (7, .pair (.int .i64) (.pair (.int .i64) (.pair (.bool) (.pair (.int .u8) (.unit))))), (8, .pair (.int .i64) (.pair (.int .i64) (.pair (.bool) (.pair (.int .u8) (.unit))))), (12, .int .u64), (21, .int .i32), (22, .sl (.pair (.sl (.pair (.int .i64) (.pair (.int .i64) (.pair (.int .i64) (.pair (.int .i64) (.pair (.int .i64) (.unit))))))) (.pair (.int .i64) (.pair (.int .i64) (.pair (.int .i64) (.unit)))))), (23, .int .i64), (26, .sl (.sl (.int .i64))), (31, .sl (.int .i64)), (39, .int .u32), (40, .sl (.int .u32)), (46, .pair (.int .i64) (.pair (.int .i64) (.unit))), (47, .pair (.int .i64) (.pair (.int .i64) (.unit))), (58, .sl (.pair (.int .i64) (.pair (.int .i64) (.unit)))), (59, .sl (.sl (.pair (.int .i64) (.pair (.int .i64) (.unit))))), (62, .pair (.int .i64) (.pair (.int .i64) (.unit))), (63, .pair (.int .i64) (.pair (.int .i64) (.unit))), (81, .sl (.pair (.int .i64) (.pair (.int .i64) (.pair (.int .i64) (.pair (.int .i64) (.pair (.int .i64) (.unit))))))), (82, .pair (.sl (.pair (.int .i64) (.pair (.int .i64) (.pair (.int .i64) (.pair (.int .i64) (.pair (.int .i64) (.unit))))))) (.pair (.int .i64) (.pair (.int .i64) (.pair (.int .i64) (.unit))))), (83, .pair (.sl (.pair (.int .i64) (.pair (.int .i64) (.pair (.int .i64) (.pair (.int .i64) (.pair (.int .i64) (.unit))))))) (.pair (.int .i64) (.pair (.int .i64) (.pair (.int .i64) (.unit))))), (86, .sl (.sl (.bool))), (91, .sl (.bool)), (92, .sl (.int .u8)), (97, .pair (.int .i64) (.pair (.int .i64) (.pair (.int .i64) (.pair (.int .i64) (.pair (.int .i64) (.unit)))))), (98, .pair (.int .i64) (.pair (.int .i64) (.pair (.int .i64) (.pair (.int .i64) (.pair (.int .i64) (.unit)))))), (105, .int .u64), (106, .sl (.pair (.int .i64) (.pair (.int .i64) (.unit)))), (126, .pair (.sl (.sl (.pair (.int .i64) (.pair (.int .i64) (.unit))))) (.pair (.bool) (.unit))), (127, .pair (.sl (.sl (.pair (.int .i64) (.pair (.int .i64) (.unit))))) (.pair (.bool) (.unit))), (139, .pair (.sl (.pair (.sl (.pair (.int .i64) (.pair (.int .i64) (.pair (.int .i64) (.pair (.int .i64) (.pair (.int .i64) (.unit))))))) (.pair (.int .i64) (.pair (.int .i64) (.pair (.int .i64) (.unit)))))) (.unit)), (140, .pair (.sl (.pair (.sl (.pair (.int .i64) (.pair (.int .i64) (.pair (.int .i64) (.pair (.int .i64) (.pair (.int .i64) (.unit))))))) (.pair (.int .i64) (.pair (.int .i64) (.pair (.int .i64) (.unit)))))) (.unit)), (145, .pair (.sl (.pair (.sl (.pair (.int .i64) (.pair (.int .i64) (.pair (.int .i64) (.pair (.int .i64) (.pair (.int .i64) (.unit))))))) (.pair (.int .i64) (.pair (.int .i64) (.pair (.int .i64) (.unit)))))) (.pair (.sl (.sl (.int .i64))) (.pair (.int .u32) (.pair (.sl (.sl (.bool))) (.pair (.int .u32) (.pair (.sl (.int .u32)) (.unit))))))), (146, .pair (.sl (.pair (.sl (.pair (.int .i64) (.pair (.int .i64) (.pair (.int .i64) (.pair (.int .i64) (.pair (.int .i64) (.unit))))))) (.pair (.int .i64) (.pair (.int .i64) (.pair (.int .i64) (.unit)))))) (.pair (.sl (.sl (.int .i64))) (.pair (.int .u32) (.pair (.sl (.sl (.bool))) (.pair (.int .u32) (.pair (.sl (.int .u32)) (.unit))))))), (155, .mp (.int .i64) (.int .i64)), (189, .int .u8), (190, .int .u8), (193, .int .i32), (194, .int .i32)]
def mdL : List (Nat × Md) := [(2, .bor false true), (3, .bor false true), (4, .bor false true), (5, .bor false true), (6, .bor false true), (7, .bor false true), (8, .bor false true), (12, .bor false true), (21, .bor false true), (22, .own false (.bor false false)), (23, .bor false true), (26, .own false (.bor false false)), (31, .own false (.bor false false)), (39, .bor false true), (40, .own false (.bor false false)), (46, .bor false true), (47, .bor false true), (58, .own false (.bor false false)), (59, .own false (.bor false false)), (62, .bor false true), (63, .bor false true), (81, .own false (.bor false false)), (82, .bor true false), (83, .bor true false), (86, .own false (.bor false false)), (91, .own false (.bor false false)), (92, .own false (.bor false false)), (97, .bor false true), (98, .bor false true), (105, .bor false true), (106, .own false (.bor false false)), (126, .bor true false), (127, .pair (.own false (.own true (.bor false false))) (.pair (.bor false true) (.bor false false))), (139, .bor true false), (140, .pair (.own false (.pair (.own true (.bor false true)) (.bor false true))) (.bor false false)), (145, .bor true false), (146, .pair (.bor false false) (.pair (.bor false false) (.pair (.bor false true) (.pair (.own false (.own false (.bor false true))) (.pair (.bor false true) (.pair (.own false (.bor false false)) (.bor false false))))))), (155, .own false (.bor false false)), (189, .bor false true), (190, .bor false true), (193, .bor false true), (194, .bor false true)]
def tab : Tab := ⟨lookT tyL, lookM mdL, hasT [185], hasT [9, 10, 11], fun _ => none, lookB bkl⟩
theorem bkls : BkL Try.prog bkl := by
  intro x hx
  simp only [bkl, List.mem_cons, List.not_mem_nil, or_false] at hx
  rcases hx with rfl | rfl
  · exact ⟨⟨Try.f77, codeOf Try.f77, Try.func77, by kernel_rfl, by kernel_rfl⟩, Try.f77, 112, 111, Try.func77, by kernel_rfl, by kernel_rfl, by kernel_rfl⟩
  · exact ⟨⟨Try.f121, codeOf Try.f121, Try.func121, by kernel_rfl, by kernel_rfl⟩, Try.f121, 3, 98, 4, 160, Try.func121, by kernel_rfl, by kernel_rfl, by kernel_rfl, by kernel_rfl⟩
theorem tabs : TabOK Try.prog tab ∧ EqOK Try.prog tab := tab_ok (by kernel_rfl) (by kernel_rfl)
theorem mixed : Try.prog.follows .mixedOrders = true := by kernel_rfl
abbrev tI5fn1 : Ty := ((Ty.int IntKind.i64).pair ((Ty.int IntKind.i64).pair ((Ty.int IntKind.i64).pair ((Ty.int IntKind.i64).pair ((Ty.int IntKind.i64).pair Ty.unit)))))
abbrev tI2fn1 : Ty := ((Ty.int IntKind.i64).pair ((Ty.int IntKind.i64).pair Ty.unit))
abbrev TBlfn1 : Type := List (List (Int × Int × Int × Int × Int × Unit) × Int × Int × Int × Unit)

/-! codemason block.step 1 -/
def block_step_1_phi (nf : Nat) : Nat → Option Contract := lookC []
def block_step_1_keep : Nat → List Nat := lookK []
def block_step_1_p (nf : Nat)  (i : Int) (c1 : Int) : Option (Bool × Unit) :=
  bif decide (i ≥ 0) then
    some ((decide (i < c1), ()))
  else
    some ((false, ()))
def block_step_1_f (nf : Nat) (i : Int) (c1 : Int) : Option (Bool × Unit) := block_step_1_p nf  i c1
theorem block_step_1_eq (nf : Nat) (i : Int) (c1 : Int) : runF tab (block_step_1_phi nf) block_step_1_keep nf [PT.val (Ty.int IntKind.i64) (Md.bor true false), PT.ptr (Ty.int IntKind.i64) (Md.bor true false)] [(Ty.bool, Md.bor false true)] (resL ([]) Try.f117) (codeOf Try.f117) ⟨i, c1, ()⟩ = block_step_1_f nf i c1 := by
  have h : runF tab (block_step_1_phi nf) block_step_1_keep nf [PT.val (Ty.int IntKind.i64) (Md.bor true false), PT.ptr (Ty.int IntKind.i64) (Md.bor true false)] [(Ty.bool, Md.bor false true)] (resL ([]) Try.f117) (codeOf Try.f117) ⟨i, c1, ()⟩ = block_step_1_p nf  i c1 := by kernel_rfl
  exact h
def block_step_1_F (nf : Nat) (x : denPs [.val (.int .i64) (.bor true false), .ptr (.int .i64) (.bor true false)]) : Option (denL [(.bool, .bor false true)]) := block_step_1_f nf x.1 x.2.1
def block_step_1_C (nf : Nat) : Contract := ⟨[.val (.int .i64) (.bor true false), .ptr (.int .i64) (.bor true false)], [(.bool, .bor false true)], block_step_1_F nf, []⟩
theorem block_step_1_ok : FnOK Try.prog 117 := ⟨Try.f117, codeOf Try.f117, Try.func117, by kernel_rfl, by kernel_rfl⟩
theorem block_step_1_holds (nf : Nat) : Contract.Holds Try.prog 117 (block_step_1_C nf) :=
  fn_holds (Φ := block_step_1_phi nf) (keep := block_step_1_keep) (n := nf) ⟨tabs.1, tabs.2, ctx_nil, mixed, bk_ok bkls rfl⟩ (fn := Try.f117) ⟨Try.func117, by kernel_rfl, by kernel_rfl, by kernel_rfl⟩ (fun x => block_step_1_eq nf x.1 x.2.1)

/-! codemason block.step -/
def block_step_phi (nf : Nat) : Nat → Option Contract := lookC [(117, block_step_1_C nf)]
def block_step_keep : Nat → List Nat := lookK []
def block_step_p (nf : Nat)  (vars : Int) (s : Int × Int × Int × Int × Int × Unit) : Option (Int × Unit) :=
  bif decide (s.fst < 1) then
    some ((6, ()))
  else
    bif decide (s.fst > 6) then
      some ((6, ()))
    else
      bif s.fst == 1 then
        bif decide (s.snd.snd.snd.snd.fst < 0) then
          some ((4, ()))
        else
          bif decide (s.snd.snd.snd.snd.fst > 255) then
            some ((4, ()))
          else
            bif s.fst == 2 then
              Option.bind (block_step_1_f nf s.snd.snd.snd.snd.fst vars) fun r =>
              bif !r.fst then
                some ((4, ()))
              else
                Option.bind (block_step_1_f nf s.snd.fst vars) fun r2 =>
                bif !r2.fst then
                  some ((2, ()))
                else
                  bif decide (s.fst > 2) then
                    Option.bind (block_step_1_f nf s.snd.snd.fst vars) fun r3 =>
                    bif !r3.fst then
                      some ((2, ()))
                    else
                      Option.bind (block_step_1_f nf s.snd.snd.snd.fst vars) fun r4 =>
                      bif !r4.fst then
                        some ((2, ()))
                      else
                        some ((0, ()))
                  else
                    some ((0, ()))
            else
              Option.bind (block_step_1_f nf s.snd.fst vars) fun r5 =>
              bif !r5.fst then
                some ((2, ()))
              else
                bif decide (s.fst > 2) then
                  Option.bind (block_step_1_f nf s.snd.snd.fst vars) fun r6 =>
                  bif !r6.fst then
                    some ((2, ()))
                  else
                    Option.bind (block_step_1_f nf s.snd.snd.snd.fst vars) fun r7 =>
                    bif !r7.fst then
                      some ((2, ()))
                    else
                      some ((0, ()))
                else
                  some ((0, ()))
      else
        bif s.fst == 2 then
          Option.bind (block_step_1_f nf s.snd.snd.snd.snd.fst vars) fun r8 =>
          bif !r8.fst then
            some ((4, ()))
          else
            Option.bind (block_step_1_f nf s.snd.fst vars) fun r9 =>
            bif !r9.fst then
              some ((2, ()))
            else
              bif decide (s.fst > 2) then
                Option.bind (block_step_1_f nf s.snd.snd.fst vars) fun r10 =>
                bif !r10.fst then
                  some ((2, ()))
                else
                  Option.bind (block_step_1_f nf s.snd.snd.snd.fst vars) fun r11 =>
                  bif !r11.fst then
                    some ((2, ()))
                  else
                    some ((0, ()))
              else
                some ((0, ()))
        else
          Option.bind (block_step_1_f nf s.snd.fst vars) fun r12 =>
          bif !r12.fst then
            some ((2, ()))
          else
            bif decide (s.fst > 2) then
              Option.bind (block_step_1_f nf s.snd.snd.fst vars) fun r13 =>
              bif !r13.fst then
                some ((2, ()))
              else
                Option.bind (block_step_1_f nf s.snd.snd.snd.fst vars) fun r14 =>
                bif !r14.fst then
                  some ((2, ()))
                else
                  some ((0, ()))
            else
              some ((0, ()))
def block_step_f (nf : Nat) (vars : Int) (s : Int × Int × Int × Int × Int × Unit) : Option (Int × Unit) := block_step_p nf  vars s
theorem block_step_eq (nf : Nat) (vars : Int) (s : Int × Int × Int × Int × Int × Unit) : runF tab (block_step_phi nf) block_step_keep nf [PT.val (Ty.int IntKind.i64) (Md.bor true false), PT.val tI5fn1 (Md.bor true false)] [(Ty.int IntKind.i64, Md.bor false true)] (resL ([]) Try.f64) (codeOf Try.f64) ⟨vars, s, ()⟩ = block_step_f nf vars s := by
  have h : runF tab (block_step_phi nf) block_step_keep nf [PT.val (Ty.int IntKind.i64) (Md.bor true false), PT.val tI5fn1 (Md.bor true false)] [(Ty.int IntKind.i64, Md.bor false true)] (resL ([]) Try.f64) (codeOf Try.f64) ⟨vars, s, ()⟩ = block_step_p nf  vars s := by kernel_rfl
  exact h
def block_step_F (nf : Nat) (x : denPs [.val (.int .i64) (.bor true false), .val tI5fn1 (.bor true false)]) : Option (denL [(.int .i64, .bor false true)]) := block_step_f nf x.1 x.2.1
def block_step_C (nf : Nat) : Contract := ⟨[.val (.int .i64) (.bor true false), .val tI5fn1 (.bor true false)], [(.int .i64, .bor false true)], block_step_F nf, []⟩
theorem block_step_ok : FnOK Try.prog 64 := ⟨Try.f64, codeOf Try.f64, Try.func64, by kernel_rfl, by kernel_rfl⟩
theorem block_step_holds (nf : Nat) : Contract.Holds Try.prog 64 (block_step_C nf) :=
  fn_holds (Φ := block_step_phi nf) (keep := block_step_keep) (n := nf) ⟨tabs.1, tabs.2, (ctx_cons block_step_1_ok (block_step_1_holds nf) ctx_nil), mixed, bk_ok bkls rfl⟩ (fn := Try.f64) ⟨Try.func64, by kernel_rfl, by kernel_rfl, by kernel_rfl⟩ (fun x => block_step_eq nf x.1 x.2.1)

/-! codemason block.Check 1 -/
def block_Check_1_phi (nf : Nat) : Nat → Option Contract := lookC []
def block_Check_1_keep : Nat → List Nat := lookK []
def block_Check_1_p (nf : Nat)  (i : Int) (c1 : TBlfn1) : Option (Bool × Unit) :=
  bif decide (i ≥ 0) then
    some ((decide (i < (↑c1.length : Int)), ()))
  else
    some ((false, ()))
def block_Check_1_f (nf : Nat) (i : Int) (c1 : TBlfn1) : Option (Bool × Unit) := block_Check_1_p nf  i c1
theorem block_Check_1_eq (nf : Nat) (i : Int) (c1 : TBlfn1) : runF tab (block_Check_1_phi nf) block_Check_1_keep nf [PT.val (Ty.int IntKind.i64) (Md.bor true false), PT.ptr (tI5fn1.sl.pair ((Ty.int IntKind.i64).pair tI2fn1)).sl (Md.bor true false)] [(Ty.bool, Md.bor false true)] (resL ([]) Try.f65) (codeOf Try.f65) ⟨i, c1, ()⟩ = block_Check_1_f nf i c1 := by
  have h : runF tab (block_Check_1_phi nf) block_Check_1_keep nf [PT.val (Ty.int IntKind.i64) (Md.bor true false), PT.ptr (tI5fn1.sl.pair ((Ty.int IntKind.i64).pair tI2fn1)).sl (Md.bor true false)] [(Ty.bool, Md.bor false true)] (resL ([]) Try.f65) (codeOf Try.f65) ⟨i, c1, ()⟩ = block_Check_1_p nf  i c1 := by kernel_rfl
  exact h
def block_Check_1_F (nf : Nat) (x : denPs [.val (.int .i64) (.bor true false), .ptr (.sl (.pair (.sl tI5fn1) (.pair (.int .i64) (.pair (.int .i64) (.pair (.int .i64) (.unit)))))) (.bor true false)]) : Option (denL [(.bool, .bor false true)]) := block_Check_1_f nf x.1 x.2.1
def block_Check_1_C (nf : Nat) : Contract := ⟨[.val (.int .i64) (.bor true false), .ptr (.sl (.pair (.sl tI5fn1) (.pair (.int .i64) (.pair (.int .i64) (.pair (.int .i64) (.unit)))))) (.bor true false)], [(.bool, .bor false true)], block_Check_1_F nf, []⟩
theorem block_Check_1_ok : FnOK Try.prog 65 := ⟨Try.f65, codeOf Try.f65, Try.func65, by kernel_rfl, by kernel_rfl⟩
theorem block_Check_1_holds (nf : Nat) : Contract.Holds Try.prog 65 (block_Check_1_C nf) :=
  fn_holds (Φ := block_Check_1_phi nf) (keep := block_Check_1_keep) (n := nf) ⟨tabs.1, tabs.2, ctx_nil, mixed, bk_ok bkls rfl⟩ (fn := Try.f65) ⟨Try.func65, by kernel_rfl, by kernel_rfl, by kernel_rfl⟩ (fun x => block_Check_1_eq nf x.1 x.2.1)

/-! codemason block.Check -/
def block_Check_phi (nf : Nat) : Nat → Option Contract := lookC [(64, block_step_C nf), (65, block_Check_1_C nf)]
def block_Check_keep : Nat → List Nat := lookK [(4, [0, 1, 3, 9, 46, 47, 48, 52, 53, 54, 55]), (2, [0, 1, 3, 46, 47, 48]), (0, [0, 1, 3, 5, 14, 15, 16])]
def block_Check_b0 (nf : Nat) (l2 : Int → TBlfn1 → TBlfn1 → TBlfn1 → Int → Option (Int × Unit)) (vars : Int) (p : TBlfn1) (g0 : TBlfn1 → Int → Int → Option (Int × Unit)) (p2 : TBlfn1) (many : Int) (t16 : Int) : Option (Int × Unit) :=
  bif decide (t16 < (↑p.length : Int)) then
    bif inb t16 p.length then
      g0 p2 (IntKind.i64.wrap (many + (↑(List.length (p.getD t16.toNat ([], 0, 0, 0, ())).fst) : Int))) (IntKind.i64.wrap (t16 + 1))
    else
      none
  else
    bif decide (vars < 1) then
      some ((1, ()))
    else
      bif decide (vars > 6) then
        some ((1, ()))
      else
        bif decide ((↑p2.length : Int) < 1) then
          some ((1, ()))
        else
          bif decide ((↑p2.length : Int) > 8) then
            some ((1, ()))
          else
            bif decide (many > 20) then
              some ((1, ()))
            else
              l2 vars p p2 p2 0
def block_Check_b2 (nf : Nat) (l4 : Int → TBlfn1 → TBlfn1 → Int → TBlfn1 → List (Int × Int × Int × Int × Int × Unit) × Int × Int × Int × Unit → Int → Option (Int × Unit)) (vars : Int) (p : TBlfn1) (p2 : TBlfn1) (g2 : TBlfn1 → Int → Option (Int × Unit)) (p3 : TBlfn1) (t48 : Int) : Option (Int × Unit) :=
  bif decide (t48 < (↑p2.length : Int)) then
    bif inb t48 p2.length then
      l4 vars p p2 t48 p3 (p2.getD t48.toNat ([], 0, 0, 0, ())) 0
    else
      none
  else
    some ((0, ()))
def block_Check_b4 (nf : Nat) (vars : Int) (p : TBlfn1) (p2 : TBlfn1) (t48 : Int) (g2 : TBlfn1 → Int → Option (Int × Unit)) (g4 : TBlfn1 → List (Int × Int × Int × Int × Int × Unit) × Int × Int × Int × Unit → Int → Option (Int × Unit)) (p4 : TBlfn1) (b : List (Int × Int × Int × Int × Int × Unit) × Int × Int × Int × Unit) (t55 : Int) : Option (Int × Unit) :=
  bif decide (t55 < (↑(List.length (p2.getD t48.toNat ([], 0, 0, 0, ())).fst) : Int)) then
    bif inb t55 (List.length (p2.getD t48.toNat ([], 0, 0, 0, ())).fst) then
      Option.bind (block_step_f nf vars (List.getD (p2.getD t48.toNat ([], 0, 0, 0, ())).fst t55.toNat (0, 0, 0, 0, 0, ()))) fun r =>
      bif r.fst != 0 then
        some ((r.fst, ()))
      else
        g4 p4 b (IntKind.i64.wrap (t55 + 1))
    else
      none
  else
    bif decide (b.snd.fst < (-1)) then
      some ((2, ()))
    else
      bif decide (b.snd.fst ≥ vars) then
        some ((2, ()))
      else
        Option.bind (block_Check_1_f nf b.snd.snd.fst p4) fun r2 =>
        bif !r2.fst then
          bif b.snd.snd.fst != (-1) then
            some ((3, ()))
          else
            bif decide (b.snd.fst ≥ 0) then
              some ((3, ()))
            else
              bif decide (b.snd.fst ≥ 0) then
                Option.bind (block_Check_1_f nf b.snd.snd.snd.fst p4) fun r3 =>
                bif !r3.fst then
                  some ((3, ()))
                else
                  g2 p4 (IntKind.i64.wrap (t48 + 1))
              else
                g2 p4 (IntKind.i64.wrap (t48 + 1))
        else
          bif decide (b.snd.fst ≥ 0) then
            Option.bind (block_Check_1_f nf b.snd.snd.snd.fst p4) fun r4 =>
            bif !r4.fst then
              some ((3, ()))
            else
              g2 p4 (IntKind.i64.wrap (t48 + 1))
          else
            g2 p4 (IntKind.i64.wrap (t48 + 1))
def block_Check_p (nf : Nat) (l0 : Int → TBlfn1 → TBlfn1 → Int → Int → Option (Int × Unit)) (vars : Int) (p : TBlfn1) : Option (Int × Unit) :=
  l0 vars p p 0 0
def block_Check_l4 (nf : Nat) (vars : Int) (p : TBlfn1) (p2 : TBlfn1) (t48 : Int) (g2 : TBlfn1 → Int → Option (Int × Unit)) : Nat → TBlfn1 → List (Int × Int × Int × Int × Int × Unit) × Int × Int × Int × Unit → Int → Option (Int × Unit)
  | 0, _, _, _ => none
  | fu + 1, p4, b, t55 => block_Check_b4 nf  vars p p2 t48 g2 (block_Check_l4 nf vars p p2 t48 g2 fu) p4 b t55
def block_Check_l2 (nf : Nat) (vars : Int) (p : TBlfn1) (p2 : TBlfn1) : Nat → TBlfn1 → Int → Option (Int × Unit)
  | 0, _, _ => none
  | fu + 1, p3, t48 => block_Check_b2 nf (fun _ _ _ p3 v0 v1 v2 => block_Check_l4 nf vars p p2 p3 (fun p3 t48 => block_Check_l2 nf vars p p2  fu p3 t48) nf v0 v1 v2) vars p p2  (block_Check_l2 nf vars p p2  fu) p3 t48
def block_Check_l0 (nf : Nat) (vars : Int) (p : TBlfn1) : Nat → TBlfn1 → Int → Int → Option (Int × Unit)
  | 0, _, _, _ => none
  | fu + 1, p2, many, t16 => block_Check_b0 nf (fun _ _ p2 v0 v1 => block_Check_l2 nf vars p p2  nf v0 v1) vars p  (block_Check_l0 nf vars p  fu) p2 many t16
def block_Check_f (nf : Nat) (vars : Int) (p : TBlfn1) : Option (Int × Unit) := block_Check_p nf (fun p0 p1 v0 v1 v2 => block_Check_l0 nf p0 p1 nf v0 v1 v2) vars p
noncomputable def block_Check_L0 (nf : Nat) : LC (Int × Unit) := theL (findL tab (block_Check_phi nf) (fun _ F => iter nf F) block_Check_keep 0 0 (codeOf Try.f19) (fin tab [(Ty.int IntKind.i64, Md.bor false true)] (resL ([]) Try.f19)) (fun _ _ => none) (fin tab [(Ty.int IntKind.i64, Md.bor false true)] (resL ([]) Try.f19)))
def block_Check_m0 (vars : Int) (p : TBlfn1) (p2 : TBlfn1) (many : Int) (t16 : Int) : St := ⟨fresh, [(0, AV.v (Ty.int IntKind.i64) (Md.bor false true) vars), (1, AV.v (tI5fn1.sl.pair ((Ty.int IntKind.i64).pair tI2fn1)).sl (Md.bor true false) p), (3, AV.box 3 500003 (tI5fn1.sl.pair ((Ty.int IntKind.i64).pair tI2fn1)).sl (Md.bor true false) p2), (5, AV.v (Ty.int IntKind.i64) (Md.bor false true) many), (14, AV.v (tI5fn1.sl.pair ((Ty.int IntKind.i64).pair tI2fn1)).sl (Md.bor true false) p), (15, AV.v (Ty.int IntKind.i64) (Md.bor false true) (↑p.length : Int)), (16, AV.v (Ty.int IntKind.i64) (Md.bor false true) t16)]⟩
noncomputable def block_Check_L2 (nf : Nat) : LC (Int × Unit) := theL (findL tab (block_Check_phi nf) (fun _ F => iter nf F) block_Check_keep 2 0 (codeOf Try.f19) (fin tab [(Ty.int IntKind.i64, Md.bor false true)] (resL ([]) Try.f19)) (fun _ _ => none) (fin tab [(Ty.int IntKind.i64, Md.bor false true)] (resL ([]) Try.f19)))
def block_Check_m2 (vars : Int) (p : TBlfn1) (p2 : TBlfn1) (p3 : TBlfn1) (t48 : Int) : St := ⟨fresh, [(0, AV.v (Ty.int IntKind.i64) (Md.bor false true) vars), (1, AV.v (tI5fn1.sl.pair ((Ty.int IntKind.i64).pair tI2fn1)).sl (Md.bor true false) p), (3, AV.box 3 500003 (tI5fn1.sl.pair ((Ty.int IntKind.i64).pair tI2fn1)).sl (Md.bor true false) p3), (46, AV.v (tI5fn1.sl.pair ((Ty.int IntKind.i64).pair tI2fn1)).sl (Md.bor true false) p2), (47, AV.v (Ty.int IntKind.i64) (Md.bor false true) (↑p2.length : Int)), (48, AV.v (Ty.int IntKind.i64) (Md.bor false true) t48)]⟩
noncomputable def block_Check_L4 (nf : Nat) (G2 : St → Option (Int × Unit)) : LC (Int × Unit) := theL (findL tab (block_Check_phi nf) (fun _ F => iter nf F) block_Check_keep 4 2 (block_Check_L2 nf ).c (fun st => norm (block_Check_keep 2) st G2) (block_Check_L2 nf ).Kx (block_Check_L2 nf ).Kr)
def block_Check_m4 (vars : Int) (p : TBlfn1) (p2 : TBlfn1) (t48 : Int) (p4 : TBlfn1) (b : List (Int × Int × Int × Int × Int × Unit) × Int × Int × Int × Unit) (t55 : Int) : St := ⟨fresh, [(0, AV.v (Ty.int IntKind.i64) (Md.bor false true) vars), (1, AV.v (tI5fn1.sl.pair ((Ty.int IntKind.i64).pair tI2fn1)).sl (Md.bor true false) p), (3, AV.box 3 500003 (tI5fn1.sl.pair ((Ty.int IntKind.i64).pair tI2fn1)).sl (Md.bor true false) p4), (9, AV.box 9 500009 (tI5fn1.sl.pair ((Ty.int IntKind.i64).pair tI2fn1)) (Md.bor true false) b), (46, AV.v (tI5fn1.sl.pair ((Ty.int IntKind.i64).pair tI2fn1)).sl (Md.bor true false) p2), (47, AV.v (Ty.int IntKind.i64) (Md.bor false true) (↑p2.length : Int)), (48, AV.v (Ty.int IntKind.i64) (Md.bor false true) t48), (52, AV.pl 9 9 [Stp.dr, Stp.fld 0]), (53, AV.v tI5fn1.sl (Md.bor true false) (p2.getD t48.toNat ([], 0, 0, 0, ())).fst), (54, AV.v (Ty.int IntKind.i64) (Md.bor false true) (↑(List.length (p2.getD t48.toNat ([], 0, 0, 0, ())).fst) : Int)), (55, AV.v (Ty.int IntKind.i64) (Md.bor false true) t55)]⟩
theorem block_Check_h4 (nf : Nat) (G2 : St → Option (Int × Unit)) (vars : Int) (p : TBlfn1) (p2 : TBlfn1) (t48 : Int) (fu : Nat) (p4 : TBlfn1) (b : List (Int × Int × Int × Int × Int × Unit) × Int × Int × Int × Unit) (t55 : Int) : iter (fu + 1) (LC.F tab (block_Check_phi nf) (fun _ F => iter nf F) block_Check_keep 4 (block_Check_L4 nf G2)) (block_Check_m4 vars p p2 t48 p4 b t55) = block_Check_b4 nf  vars p p2 t48 (fun p3 t48 => G2 (block_Check_m2 vars p p2 p3 t48)) (fun p4 b t55 => iter fu (LC.F tab (block_Check_phi nf) (fun _ F => iter nf F) block_Check_keep 4 (block_Check_L4 nf G2)) (block_Check_m4 vars p p2 t48 p4 b t55)) p4 b t55 := by kernel_rfl
theorem block_Check_e4 (nf : Nat) (G2 : St → Option (Int × Unit)) (vars : Int) (p : TBlfn1) (p2 : TBlfn1) (t48 : Int) : ∀ (fu : Nat) (p4 : TBlfn1) (b : List (Int × Int × Int × Int × Int × Unit) × Int × Int × Int × Unit) (t55 : Int), iter fu (LC.F tab (block_Check_phi nf) (fun _ F => iter nf F) block_Check_keep 4 (block_Check_L4 nf G2)) (block_Check_m4 vars p p2 t48 p4 b t55) = block_Check_l4 nf vars p p2 t48 (fun p3 t48 => G2 (block_Check_m2 vars p p2 p3 t48)) fu p4 b t55 := by
  intro fu
  induction fu with
  | zero => intros; rfl
  | succ fu ih =>
    intro p4 b t55
    rw [block_Check_h4 nf G2 vars p p2 t48 fu p4 b t55]
    simp only [ih]
    rfl
theorem block_Check_h2 (nf : Nat)  (vars : Int) (p : TBlfn1) (p2 : TBlfn1) (fu : Nat) (p3 : TBlfn1) (t48 : Int) : iter (fu + 1) (LC.F tab (block_Check_phi nf) (fun _ F => iter nf F) block_Check_keep 2 (block_Check_L2 nf )) (block_Check_m2 vars p p2 p3 t48) = block_Check_b2 nf (fun _ _ _ p3 v0 v1 v2 => iter nf (LC.F tab (block_Check_phi nf) (fun _ F => iter nf F) block_Check_keep 4 (block_Check_L4 nf (iter fu (LC.F tab (block_Check_phi nf) (fun _ F => iter nf F) block_Check_keep 2 (block_Check_L2 nf ))))) (block_Check_m4 vars p p2 p3 v0 v1 v2)) vars p p2  (fun p3 t48 => iter fu (LC.F tab (block_Check_phi nf) (fun _ F => iter nf F) block_Check_keep 2 (block_Check_L2 nf )) (block_Check_m2 vars p p2 p3 t48)) p3 t48 := by kernel_rfl
theorem block_Check_e2 (nf : Nat)  (vars : Int) (p : TBlfn1) (p2 : TBlfn1) : ∀ (fu : Nat) (p3 : TBlfn1) (t48 : Int), iter fu (LC.F tab (block_Check_phi nf) (fun _ F => iter nf F) block_Check_keep 2 (block_Check_L2 nf )) (block_Check_m2 vars p p2 p3 t48) = block_Check_l2 nf vars p p2  fu p3 t48 := by
  intro fu
  induction fu with
  | zero => intros; rfl
  | succ fu ih =>
    intro p3 t48
    rw [block_Check_h2 nf  vars p p2 fu p3 t48]
    simp only [ih, block_Check_e4]
    rfl
theorem block_Check_h0 (nf : Nat)  (vars : Int) (p : TBlfn1) (fu : Nat) (p2 : TBlfn1) (many : Int) (t16 : Int) : iter (fu + 1) (LC.F tab (block_Check_phi nf) (fun _ F => iter nf F) block_Check_keep 0 (block_Check_L0 nf )) (block_Check_m0 vars p p2 many t16) = block_Check_b0 nf (fun _ _ p2 v0 v1 => iter nf (LC.F tab (block_Check_phi nf) (fun _ F => iter nf F) block_Check_keep 2 (block_Check_L2 nf )) (block_Check_m2 vars p p2 v0 v1)) vars p  (fun p2 many t16 => iter fu (LC.F tab (block_Check_phi nf) (fun _ F => iter nf F) block_Check_keep 0 (block_Check_L0 nf )) (block_Check_m0 vars p p2 many t16)) p2 many t16 := by kernel_rfl
theorem block_Check_e0 (nf : Nat)  (vars : Int) (p : TBlfn1) : ∀ (fu : Nat) (p2 : TBlfn1) (many : Int) (t16 : Int), iter fu (LC.F tab (block_Check_phi nf) (fun _ F => iter nf F) block_Check_keep 0 (block_Check_L0 nf )) (block_Check_m0 vars p p2 many t16) = block_Check_l0 nf vars p  fu p2 many t16 := by
  intro fu
  induction fu with
  | zero => intros; rfl
  | succ fu ih =>
    intro p2 many t16
    rw [block_Check_h0 nf  vars p fu p2 many t16]
    simp only [ih, block_Check_e2]
    rfl
theorem block_Check_eq (nf : Nat) (vars : Int) (p : TBlfn1) : runF tab (block_Check_phi nf) block_Check_keep nf [PT.val (Ty.int IntKind.i64) (Md.bor true false), PT.val (tI5fn1.sl.pair ((Ty.int IntKind.i64).pair tI2fn1)).sl (Md.bor true false)] [(Ty.int IntKind.i64, Md.bor false true)] (resL ([]) Try.f19) (codeOf Try.f19) ⟨vars, p, ()⟩ = block_Check_f nf vars p := by
  have h : runF tab (block_Check_phi nf) block_Check_keep nf [PT.val (Ty.int IntKind.i64) (Md.bor true false), PT.val (tI5fn1.sl.pair ((Ty.int IntKind.i64).pair tI2fn1)).sl (Md.bor true false)] [(Ty.int IntKind.i64, Md.bor false true)] (resL ([]) Try.f19) (codeOf Try.f19) ⟨vars, p, ()⟩ = block_Check_p nf (fun p0 p1 v0 v1 v2 => iter nf (LC.F tab (block_Check_phi nf) (fun _ F => iter nf F) block_Check_keep 0 (block_Check_L0 nf)) (block_Check_m0 p0 p1 v0 v1 v2)) vars p := by kernel_rfl
  rw [h]
  simp only [block_Check_e0]
  rfl
def block_Check_F (nf : Nat) (x : denPs [.val (.int .i64) (.bor true false), .val (.sl (.pair (.sl tI5fn1) (.pair (.int .i64) (.pair (.int .i64) (.pair (.int .i64) (.unit)))))) (.bor true false)]) : Option (denL [(.int .i64, .bor false true)]) := block_Check_f nf x.1 x.2.1
def block_Check_C (nf : Nat) : Contract := ⟨[.val (.int .i64) (.bor true false), .val (.sl (.pair (.sl tI5fn1) (.pair (.int .i64) (.pair (.int .i64) (.pair (.int .i64) (.unit)))))) (.bor true false)], [(.int .i64, .bor false true)], block_Check_F nf, []⟩
theorem block_Check_ok : FnOK Try.prog 19 := ⟨Try.f19, codeOf Try.f19, Try.func19, by kernel_rfl, by kernel_rfl⟩
theorem block_Check_holds (nf : Nat) : Contract.Holds Try.prog 19 (block_Check_C nf) :=
  fn_holds (Φ := block_Check_phi nf) (keep := block_Check_keep) (n := nf) ⟨tabs.1, tabs.2, (ctx_cons block_step_ok (block_step_holds nf) (ctx_cons block_Check_1_ok (block_Check_1_holds nf) ctx_nil)), mixed, bk_ok bkls rfl⟩ (fn := Try.f19) ⟨Try.func19, by kernel_rfl, by kernel_rfl, by kernel_rfl⟩ (fun x => block_Check_eq nf x.1 x.2.1)

/-! codemason live.wrong -/
def live_wrong_phi (nf : Nat) : Nat → Option Contract := lookC [(19, block_Check_C nf)]
def live_wrong_keep : Nat → List Nat := lookK []
def live_wrong_p (nf : Nat)  (vars : Int) (p : TBlfn1) (want : Int) : Option (Int × Unit) :=
  Option.bind (block_Check_f nf vars p) fun r =>
  bif r.fst != 0 then
    some ((r.fst, ()))
  else
    bif decide (0 ≤ vars) then
      bif shrI IntKind.u32 want vars != 0 then
        some ((4, ()))
      else
        some ((0, ()))
    else
      none
def live_wrong_f (nf : Nat) (vars : Int) (p : TBlfn1) (want : Int) : Option (Int × Unit) := live_wrong_p nf  vars p want
theorem live_wrong_eq (nf : Nat) (vars : Int) (p : TBlfn1) (want : Int) : runF tab (live_wrong_phi nf) live_wrong_keep nf [PT.val (Ty.int IntKind.i64) (Md.bor true false), PT.val (tI5fn1.sl.pair ((Ty.int IntKind.i64).pair tI2fn1)).sl (Md.bor true false), PT.val (Ty.int IntKind.u32) (Md.bor true false)] [(Ty.int IntKind.i64, Md.bor false true)] (resL ([]) Try.f71) (codeOf Try.f71) ⟨vars, p, want, ()⟩ = live_wrong_f nf vars p want := by
  have h : runF tab (live_wrong_phi nf) live_wrong_keep nf [PT.val (Ty.int IntKind.i64) (Md.bor true false), PT.val (tI5fn1.sl.pair ((Ty.int IntKind.i64).pair tI2fn1)).sl (Md.bor true false), PT.val (Ty.int IntKind.u32) (Md.bor true false)] [(Ty.int IntKind.i64, Md.bor false true)] (resL ([]) Try.f71) (codeOf Try.f71) ⟨vars, p, want, ()⟩ = live_wrong_p nf  vars p want := by kernel_rfl
  exact h
def live_wrong_F (nf : Nat) (x : denPs [.val (.int .i64) (.bor true false), .val (.sl (.pair (.sl tI5fn1) (.pair (.int .i64) (.pair (.int .i64) (.pair (.int .i64) (.unit)))))) (.bor true false), .val (.int .u32) (.bor true false)]) : Option (denL [(.int .i64, .bor false true)]) := live_wrong_f nf x.1 x.2.1 x.2.2.1
def live_wrong_C (nf : Nat) : Contract := ⟨[.val (.int .i64) (.bor true false), .val (.sl (.pair (.sl tI5fn1) (.pair (.int .i64) (.pair (.int .i64) (.pair (.int .i64) (.unit)))))) (.bor true false), .val (.int .u32) (.bor true false)], [(.int .i64, .bor false true)], live_wrong_F nf, []⟩
theorem live_wrong_ok : FnOK Try.prog 71 := ⟨Try.f71, codeOf Try.f71, Try.func71, by kernel_rfl, by kernel_rfl⟩
theorem live_wrong_holds (nf : Nat) : Contract.Holds Try.prog 71 (live_wrong_C nf) :=
  fn_holds (Φ := live_wrong_phi nf) (keep := live_wrong_keep) (n := nf) ⟨tabs.1, tabs.2, (ctx_cons block_Check_ok (block_Check_holds nf) ctx_nil), mixed, bk_ok bkls rfl⟩ (fn := Try.f71) ⟨Try.func71, by kernel_rfl, by kernel_rfl, by kernel_rfl⟩ (fun x => live_wrong_eq nf x.1 x.2.1 x.2.2.1)

/-! codemason block.Next -/
def block_Next_tab : Tab := ⟨lookT tyL, lookM ([(26, .own false (.own true (.bor false true)))] ++ mdL), hasT [185], hasT [9, 10, 11], fun _ => none, lookB bkl⟩
theorem block_Next_tabs : TabOK Try.prog block_Next_tab ∧ EqOK Try.prog block_Next_tab := tab_ok (by kernel_rfl) (by kernel_rfl)
def block_Next_phi (nf : Nat) : Nat → Option Contract := lookC []
def block_Next_keep : Nat → List Nat := lookK [(0, [0, 3, 8, 9, 10, 11])]
def block_Next_b0 (nf : Nat) (p : TBlfn1) (g0 : List (List Int) → Int → Option (List (List Int) × Unit)) (next : List (List Int)) (t11 : Int) : Option (List (List Int) × Unit) :=
  bif decide (t11 < (↑p.length : Int)) then
    bif inb t11 p.length then
      bif decide ((p.getD t11.toNat ([], 0, 0, 0, ())).snd.snd.fst ≥ 0) then
        bif inb t11 next.length then
          bif ![(p.getD t11.toNat ([], 0, 0, 0, ())).snd.snd.fst].isEmpty && (List.length (next.getD t11.toNat []) + [(p.getD t11.toNat ([], 0, 0, 0, ())).snd.snd.fst].length).ble lim then
            bif inb t11 next.length then
              bif decide ([Stp.el t11.toNat] = [] ++ [Stp.el t11.toNat]) then
                bif decide ((p.getD t11.toNat ([], 0, 0, 0, ())).snd.fst ≥ 0) then
                  bif (p.getD t11.toNat ([], 0, 0, 0, ())).snd.snd.snd.fst != (p.getD t11.toNat ([], 0, 0, 0, ())).snd.snd.fst then
                    bif inb t11 (next.set t11.toNat (next.getD t11.toNat [] ++ [(p.getD t11.toNat ([], 0, 0, 0, ())).snd.snd.fst])).length then
                      bif ![(p.getD t11.toNat ([], 0, 0, 0, ())).snd.snd.snd.fst].isEmpty && (List.length ((next.set t11.toNat (next.getD t11.toNat [] ++ [(p.getD t11.toNat ([], 0, 0, 0, ())).snd.snd.fst])).getD t11.toNat []) + [(p.getD t11.toNat ([], 0, 0, 0, ())).snd.snd.snd.fst].length).ble lim then
                        bif inb t11 (next.set t11.toNat (next.getD t11.toNat [] ++ [(p.getD t11.toNat ([], 0, 0, 0, ())).snd.snd.fst])).length then
                          bif decide ([Stp.el t11.toNat] = [] ++ [Stp.el t11.toNat]) then
                            g0 ((next.set t11.toNat (next.getD t11.toNat [] ++ [(p.getD t11.toNat ([], 0, 0, 0, ())).snd.snd.fst])).set t11.toNat ((next.set t11.toNat (next.getD t11.toNat [] ++ [(p.getD t11.toNat ([], 0, 0, 0, ())).snd.snd.fst])).getD t11.toNat [] ++ [(p.getD t11.toNat ([], 0, 0, 0, ())).snd.snd.snd.fst])) (IntKind.i64.wrap (t11 + 1))
                          else
                            none
                        else
                          none
                      else
                        none
                    else
                      none
                  else
                    g0 (next.set t11.toNat (next.getD t11.toNat [] ++ [(p.getD t11.toNat ([], 0, 0, 0, ())).snd.snd.fst])) (IntKind.i64.wrap (t11 + 1))
                else
                  g0 (next.set t11.toNat (next.getD t11.toNat [] ++ [(p.getD t11.toNat ([], 0, 0, 0, ())).snd.snd.fst])) (IntKind.i64.wrap (t11 + 1))
              else
                none
            else
              none
          else
            none
        else
          none
      else
        bif decide ((p.getD t11.toNat ([], 0, 0, 0, ())).snd.fst ≥ 0) then
          bif (p.getD t11.toNat ([], 0, 0, 0, ())).snd.snd.snd.fst != (p.getD t11.toNat ([], 0, 0, 0, ())).snd.snd.fst then
            bif inb t11 next.length then
              bif ![(p.getD t11.toNat ([], 0, 0, 0, ())).snd.snd.snd.fst].isEmpty && (List.length (next.getD t11.toNat []) + [(p.getD t11.toNat ([], 0, 0, 0, ())).snd.snd.snd.fst].length).ble lim then
                bif inb t11 next.length then
                  bif decide ([Stp.el t11.toNat] = [] ++ [Stp.el t11.toNat]) then
                    g0 (next.set t11.toNat (next.getD t11.toNat [] ++ [(p.getD t11.toNat ([], 0, 0, 0, ())).snd.snd.snd.fst])) (IntKind.i64.wrap (t11 + 1))
                  else
                    none
                else
                  none
              else
                none
            else
              none
          else
            g0 next (IntKind.i64.wrap (t11 + 1))
        else
          g0 next (IntKind.i64.wrap (t11 + 1))
    else
      none
  else
    some ((next, ()))
def block_Next_p (nf : Nat) (l0 : TBlfn1 → List (List Int) → Int → Option (List (List Int) × Unit)) (p : TBlfn1) : Option (List (List Int) × Unit) :=
  bif decide (0 ≤ (↑p.length : Int)) && decide ((↑p.length : Int) ≤ (↑p.length : Int)) && decide ((↑p.length : Int) ≤ (↑lim : Int)) then
    l0 p (List.replicate (↑p.length : Int).toNat []) 0
  else
    none
def block_Next_l0 (nf : Nat) (p : TBlfn1) : Nat → List (List Int) → Int → Option (List (List Int) × Unit)
  | 0, _, _ => none
  | fu + 1, next, t11 => block_Next_b0 nf  p  (block_Next_l0 nf p  fu) next t11
def block_Next_f (nf : Nat) (p : TBlfn1) : Option (List (List Int) × Unit) := block_Next_p nf (fun p0 v0 v1 => block_Next_l0 nf p0 nf v0 v1) p
noncomputable def block_Next_L0 (nf : Nat) : LC (List (List Int) × Unit) := theL (findL block_Next_tab (block_Next_phi nf) (fun _ F => iter nf F) block_Next_keep 0 0 (codeOf Try.f67) (fin block_Next_tab [((Ty.int IntKind.i64).sl.sl, Md.own false (Md.bor false false))] (resL ([]) Try.f67)) (fun _ _ => none) (fin block_Next_tab [((Ty.int IntKind.i64).sl.sl, Md.own false (Md.bor false false))] (resL ([]) Try.f67)))
def block_Next_m0 (p : TBlfn1) (next : List (List Int)) (t11 : Int) : St := ⟨fresh, [(0, AV.v (tI5fn1.sl.pair ((Ty.int IntKind.i64).pair tI2fn1)).sl (Md.bor true false) p), (3, AV.ow 500003 (Ty.int IntKind.i64).sl.sl (Md.own false (Md.own true (Md.bor false true))) next), (8, AV.dead), (9, AV.v (tI5fn1.sl.pair ((Ty.int IntKind.i64).pair tI2fn1)).sl (Md.bor true false) p), (10, AV.v (Ty.int IntKind.i64) (Md.bor false true) (↑p.length : Int)), (11, AV.v (Ty.int IntKind.i64) (Md.bor false true) t11)]⟩
theorem block_Next_h0 (nf : Nat)  (p : TBlfn1) (fu : Nat) (next : List (List Int)) (t11 : Int) : iter (fu + 1) (LC.F block_Next_tab (block_Next_phi nf) (fun _ F => iter nf F) block_Next_keep 0 (block_Next_L0 nf )) (block_Next_m0 p next t11) = block_Next_b0 nf  p  (fun next t11 => iter fu (LC.F block_Next_tab (block_Next_phi nf) (fun _ F => iter nf F) block_Next_keep 0 (block_Next_L0 nf )) (block_Next_m0 p next t11)) next t11 := by kernel_rfl
theorem block_Next_e0 (nf : Nat)  (p : TBlfn1) : ∀ (fu : Nat) (next : List (List Int)) (t11 : Int), iter fu (LC.F block_Next_tab (block_Next_phi nf) (fun _ F => iter nf F) block_Next_keep 0 (block_Next_L0 nf )) (block_Next_m0 p next t11) = block_Next_l0 nf p  fu next t11 := by
  intro fu
  induction fu with
  | zero => intros; rfl
  | succ fu ih =>
    intro next t11
    rw [block_Next_h0 nf  p fu next t11]
    simp only [ih]
    rfl
theorem block_Next_eq (nf : Nat) (p : TBlfn1) : runF block_Next_tab (block_Next_phi nf) block_Next_keep nf [PT.val (tI5fn1.sl.pair ((Ty.int IntKind.i64).pair tI2fn1)).sl (Md.bor true false)] [((Ty.int IntKind.i64).sl.sl, Md.own false (Md.bor false false))] (resL ([]) Try.f67) (codeOf Try.f67) ⟨p, ()⟩ = block_Next_f nf p := by
  have h : runF block_Next_tab (block_Next_phi nf) block_Next_keep nf [PT.val (tI5fn1.sl.pair ((Ty.int IntKind.i64).pair tI2fn1)).sl (Md.bor true false)] [((Ty.int IntKind.i64).sl.sl, Md.own false (Md.bor false false))] (resL ([]) Try.f67) (codeOf Try.f67) ⟨p, ()⟩ = block_Next_p nf (fun p0 v0 v1 => iter nf (LC.F block_Next_tab (block_Next_phi nf) (fun _ F => iter nf F) block_Next_keep 0 (block_Next_L0 nf)) (block_Next_m0 p0 v0 v1)) p := by kernel_rfl
  rw [h]
  simp only [block_Next_e0]
  rfl
def block_Next_F (nf : Nat) (x : denPs [.val (.sl (.pair (.sl tI5fn1) (.pair (.int .i64) (.pair (.int .i64) (.pair (.int .i64) (.unit)))))) (.bor true false)]) : Option (denL [(.sl (.sl (.int .i64)), .own false (.bor false false))]) := block_Next_f nf x.1
def block_Next_C (nf : Nat) : Contract := ⟨[.val (.sl (.pair (.sl tI5fn1) (.pair (.int .i64) (.pair (.int .i64) (.pair (.int .i64) (.unit)))))) (.bor true false)], [(.sl (.sl (.int .i64)), .own false (.bor false false))], block_Next_F nf, []⟩
theorem block_Next_ok : FnOK Try.prog 67 := ⟨Try.f67, codeOf Try.f67, Try.func67, by kernel_rfl, by kernel_rfl⟩
theorem block_Next_holds (nf : Nat) : Contract.Holds Try.prog 67 (block_Next_C nf) :=
  fn_holds (Φ := block_Next_phi nf) (keep := block_Next_keep) (n := nf) ⟨block_Next_tabs.1, block_Next_tabs.2, ctx_nil, mixed, bk_ok bkls rfl⟩ (fn := Try.f67) ⟨Try.func67, by kernel_rfl, by kernel_rfl, by kernel_rfl⟩ (fun x => block_Next_eq nf x.1)

/-! codemason live.Behind -/
def live_Behind_phi (nf : Nat) : Nat → Option Contract := lookC [(67, block_Next_C nf)]
def live_Behind_keep : Nat → List Nat := lookK [(2, [0, 1, 2, 7, 9, 10, 14, 15, 16, 19, 20, 37, 38, 39, 53]), (0, [0, 1, 2, 7, 14, 15, 16, 53])]
def live_Behind_b0 (nf : Nat) (l2 : TBlfn1 → Int → List Int → List (List Int) → Int → List (List Int) × Unit → List Int → Int → List (List Int) → Int → Option (List Int × Unit)) (p : TBlfn1) (want : Int) (in' : List Int) (r : List (List Int) × Unit) (g0 : List Int → List (List Int) → Int → Option (List Int × Unit)) (out : List Int) (t14 : List (List Int)) (t16 : Int) : Option (List Int × Unit) :=
  bif decide (t16 < (↑(List.length r.fst) : Int)) then
    bif inb t16 t14.length then
      bif inb t16 p.length then
        bif decide ((p.getD t16.toNat ([], 0, 0, 0, ())).snd.fst ≥ 0) then
          bif inb t16 p.length then
            bif decide (0 ≤ (p.getD t16.toNat ([], 0, 0, 0, ())).snd.fst) then
              bif (↑(List.length (t14.getD t16.toNat [])) : Int) == 0 then
                l2 p want in' t14 t16 r out want t14 0
              else
                l2 p want in' t14 t16 r out (shlI IntKind.u32 1 (p.getD t16.toNat ([], 0, 0, 0, ())).snd.fst) t14 0
            else
              none
          else
            none
        else
          bif (↑(List.length (t14.getD t16.toNat [])) : Int) == 0 then
            l2 p want in' t14 t16 r out want t14 0
          else
            l2 p want in' t14 t16 r out 0 t14 0
      else
        none
    else
      none
  else
    some ((out, ()))
def live_Behind_b2 (nf : Nat) (p : TBlfn1) (want : Int) (in' : List Int) (t14 : List (List Int)) (t16 : Int) (r : List (List Int) × Unit) (g0 : List Int → List (List Int) → Int → Option (List Int × Unit)) (g2 : List Int → Int → List (List Int) → Int → Option (List Int × Unit)) (out2 : List Int) (s : Int) (t142 : List (List Int)) (t39 : Int) : Option (List Int × Unit) :=
  bif decide (t39 < (↑(List.length (t14.getD t16.toNat [])) : Int)) then
    bif inb t39 (List.length (t14.getD t16.toNat [])) then
      bif inb (List.getD (t14.getD t16.toNat []) t39.toNat 0) in'.length then
        g2 out2 (IntKind.u32.wrap (↑(BitVec.ofInt IntKind.u32.bits s ||| BitVec.ofInt IntKind.u32.bits (in'.getD (Int.toNat (List.getD (t14.getD t16.toNat []) t39.toNat 0)) 0)).toNat : Int)) t142 (IntKind.i64.wrap (t39 + 1))
      else
        none
    else
      none
  else
    bif bimp false ![s].isEmpty && (out2.length + [s].length).ble lim then
      g0 (out2 ++ [s]) t142 (IntKind.i64.wrap (t16 + 1))
    else
      none
def live_Behind_p (nf : Nat) (l0 : TBlfn1 → Int → List Int → List (List Int) × Unit → List Int → List (List Int) → Int → Option (List Int × Unit)) (p : TBlfn1) (want : Int) (in' : List Int) : Option (List Int × Unit) :=
  Option.bind (block_Next_f nf p) fun r =>
  l0 p want in' r [] r.fst 0
def live_Behind_l2 (nf : Nat) (p : TBlfn1) (want : Int) (in' : List Int) (t14 : List (List Int)) (t16 : Int) (r : List (List Int) × Unit) (g0 : List Int → List (List Int) → Int → Option (List Int × Unit)) : Nat → List Int → Int → List (List Int) → Int → Option (List Int × Unit)
  | 0, _, _, _, _ => none
  | fu + 1, out2, s, t142, t39 => live_Behind_b2 nf  p want in' t14 t16 r g0 (live_Behind_l2 nf p want in' t14 t16 r g0 fu) out2 s t142 t39
def live_Behind_l0 (nf : Nat) (p : TBlfn1) (want : Int) (in' : List Int) (r : List (List Int) × Unit) : Nat → List Int → List (List Int) → Int → Option (List Int × Unit)
  | 0, _, _, _ => none
  | fu + 1, out, t14, t16 => live_Behind_b0 nf (fun _ _ _ p3 p4 _ v0 v1 v2 v3 => live_Behind_l2 nf p want in' p3 p4 r (fun out t14 t16 => live_Behind_l0 nf p want in' r  fu out t14 t16) nf v0 v1 v2 v3) p want in' r  (live_Behind_l0 nf p want in' r  fu) out t14 t16
def live_Behind_f (nf : Nat) (p : TBlfn1) (want : Int) (in' : List Int) : Option (List Int × Unit) := live_Behind_p nf (fun p0 p1 p2 p3 v0 v1 v2 => live_Behind_l0 nf p0 p1 p2 p3 nf v0 v1 v2) p want in'
noncomputable def live_Behind_L0 (nf : Nat) : LC (List Int × Unit) := theL (findL tab (live_Behind_phi nf) (fun _ F => iter nf F) live_Behind_keep 0 0 (codeOf Try.f76) (fin tab [((Ty.int IntKind.u32).sl, Md.own false (Md.bor false false))] (resL ([]) Try.f76)) (fun _ _ => none) (fin tab [((Ty.int IntKind.u32).sl, Md.own false (Md.bor false false))] (resL ([]) Try.f76)))
def live_Behind_m0 (p : TBlfn1) (want : Int) (in' : List Int) (r : List (List Int) × Unit) (out : List Int) (t14 : List (List Int)) (t16 : Int) : St := ⟨fresh, [(0, AV.v (tI5fn1.sl.pair ((Ty.int IntKind.i64).pair tI2fn1)).sl (Md.bor true false) p), (1, AV.v (Ty.int IntKind.u32) (Md.bor false true) want), (2, AV.v (Ty.int IntKind.u32).sl (Md.bor true false) in'), (7, AV.ow 500007 (Ty.int IntKind.u32).sl (Md.own false (Md.bor false false)) out), (14, AV.ow 500014 (Ty.int IntKind.i64).sl.sl (Md.own false (Md.bor false false)) t14), (15, AV.v (Ty.int IntKind.i64) (Md.bor false true) (↑(List.length r.fst) : Int)), (16, AV.v (Ty.int IntKind.i64) (Md.bor false true) t16), (53, AV.dead)]⟩
noncomputable def live_Behind_L2 (nf : Nat) (G0 : St → Option (List Int × Unit)) : LC (List Int × Unit) := theL (findL tab (live_Behind_phi nf) (fun _ F => iter nf F) live_Behind_keep 2 0 (live_Behind_L0 nf ).c (fun st => norm (live_Behind_keep 0) st G0) (live_Behind_L0 nf ).Kx (live_Behind_L0 nf ).Kr)
def live_Behind_m2 (p : TBlfn1) (want : Int) (in' : List Int) (t14 : List (List Int)) (t16 : Int) (r : List (List Int) × Unit) (out2 : List Int) (s : Int) (t142 : List (List Int)) (t39 : Int) : St := ⟨fresh, [(0, AV.v (tI5fn1.sl.pair ((Ty.int IntKind.i64).pair tI2fn1)).sl (Md.bor true false) p), (1, AV.v (Ty.int IntKind.u32) (Md.bor false true) want), (2, AV.v (Ty.int IntKind.u32).sl (Md.bor true false) in'), (7, AV.ow 500007 (Ty.int IntKind.u32).sl (Md.own false (Md.bor false false)) out2), (9, AV.v (Ty.int IntKind.i64).sl (Md.bor false false) (t14.getD t16.toNat [])), (10, AV.v (Ty.int IntKind.u32) (Md.bor false true) s), (14, AV.ow 500014 (Ty.int IntKind.i64).sl.sl (Md.own false (Md.bor false false)) t142), (15, AV.v (Ty.int IntKind.i64) (Md.bor false true) (↑(List.length r.fst) : Int)), (16, AV.v (Ty.int IntKind.i64) (Md.bor false true) t16), (19, AV.pl 14 500014 [Stp.el t16.toNat]), (20, AV.v (Ty.int IntKind.i64).sl (Md.bor false false) (t14.getD t16.toNat [])), (37, AV.v (Ty.int IntKind.i64).sl (Md.bor false false) (t14.getD t16.toNat [])), (38, AV.v (Ty.int IntKind.i64) (Md.bor false true) (↑(List.length (t14.getD t16.toNat [])) : Int)), (39, AV.v (Ty.int IntKind.i64) (Md.bor false true) t39), (53, AV.dead)]⟩
theorem live_Behind_h2 (nf : Nat) (G0 : St → Option (List Int × Unit)) (p : TBlfn1) (want : Int) (in' : List Int) (t14 : List (List Int)) (t16 : Int) (r : List (List Int) × Unit) (fu : Nat) (out2 : List Int) (s : Int) (t142 : List (List Int)) (t39 : Int) : iter (fu + 1) (LC.F tab (live_Behind_phi nf) (fun _ F => iter nf F) live_Behind_keep 2 (live_Behind_L2 nf G0)) (live_Behind_m2 p want in' t14 t16 r out2 s t142 t39) = live_Behind_b2 nf  p want in' t14 t16 r (fun out t14 t16 => G0 (live_Behind_m0 p want in' r out t14 t16)) (fun out2 s t142 t39 => iter fu (LC.F tab (live_Behind_phi nf) (fun _ F => iter nf F) live_Behind_keep 2 (live_Behind_L2 nf G0)) (live_Behind_m2 p want in' t14 t16 r out2 s t142 t39)) out2 s t142 t39 := by kernel_rfl
theorem live_Behind_e2 (nf : Nat) (G0 : St → Option (List Int × Unit)) (p : TBlfn1) (want : Int) (in' : List Int) (t14 : List (List Int)) (t16 : Int) (r : List (List Int) × Unit) : ∀ (fu : Nat) (out2 : List Int) (s : Int) (t142 : List (List Int)) (t39 : Int), iter fu (LC.F tab (live_Behind_phi nf) (fun _ F => iter nf F) live_Behind_keep 2 (live_Behind_L2 nf G0)) (live_Behind_m2 p want in' t14 t16 r out2 s t142 t39) = live_Behind_l2 nf p want in' t14 t16 r (fun out t14 t16 => G0 (live_Behind_m0 p want in' r out t14 t16)) fu out2 s t142 t39 := by
  intro fu
  induction fu with
  | zero => intros; rfl
  | succ fu ih =>
    intro out2 s t142 t39
    rw [live_Behind_h2 nf G0 p want in' t14 t16 r fu out2 s t142 t39]
    simp only [ih]
    rfl
theorem live_Behind_h0 (nf : Nat)  (p : TBlfn1) (want : Int) (in' : List Int) (r : List (List Int) × Unit) (fu : Nat) (out : List Int) (t14 : List (List Int)) (t16 : Int) : iter (fu + 1) (LC.F tab (live_Behind_phi nf) (fun _ F => iter nf F) live_Behind_keep 0 (live_Behind_L0 nf )) (live_Behind_m0 p want in' r out t14 t16) = live_Behind_b0 nf (fun _ _ _ p3 p4 _ v0 v1 v2 v3 => iter nf (LC.F tab (live_Behind_phi nf) (fun _ F => iter nf F) live_Behind_keep 2 (live_Behind_L2 nf (iter fu (LC.F tab (live_Behind_phi nf) (fun _ F => iter nf F) live_Behind_keep 0 (live_Behind_L0 nf ))))) (live_Behind_m2 p want in' p3 p4 r v0 v1 v2 v3)) p want in' r  (fun out t14 t16 => iter fu (LC.F tab (live_Behind_phi nf) (fun _ F => iter nf F) live_Behind_keep 0 (live_Behind_L0 nf )) (live_Behind_m0 p want in' r out t14 t16)) out t14 t16 := by kernel_rfl
theorem live_Behind_e0 (nf : Nat)  (p : TBlfn1) (want : Int) (in' : List Int) (r : List (List Int) × Unit) : ∀ (fu : Nat) (out : List Int) (t14 : List (List Int)) (t16 : Int), iter fu (LC.F tab (live_Behind_phi nf) (fun _ F => iter nf F) live_Behind_keep 0 (live_Behind_L0 nf )) (live_Behind_m0 p want in' r out t14 t16) = live_Behind_l0 nf p want in' r  fu out t14 t16 := by
  intro fu
  induction fu with
  | zero => intros; rfl
  | succ fu ih =>
    intro out t14 t16
    rw [live_Behind_h0 nf  p want in' r fu out t14 t16]
    simp only [ih, live_Behind_e2]
    rfl
theorem live_Behind_eq (nf : Nat) (p : TBlfn1) (want : Int) (in' : List Int) : runF tab (live_Behind_phi nf) live_Behind_keep nf [PT.val (tI5fn1.sl.pair ((Ty.int IntKind.i64).pair tI2fn1)).sl (Md.bor true false), PT.val (Ty.int IntKind.u32) (Md.bor true false), PT.val (Ty.int IntKind.u32).sl (Md.bor true false)] [((Ty.int IntKind.u32).sl, Md.own false (Md.bor false false))] (resL ([]) Try.f76) (codeOf Try.f76) ⟨p, want, in', ()⟩ = live_Behind_f nf p want in' := by
  have h : runF tab (live_Behind_phi nf) live_Behind_keep nf [PT.val (tI5fn1.sl.pair ((Ty.int IntKind.i64).pair tI2fn1)).sl (Md.bor true false), PT.val (Ty.int IntKind.u32) (Md.bor true false), PT.val (Ty.int IntKind.u32).sl (Md.bor true false)] [((Ty.int IntKind.u32).sl, Md.own false (Md.bor false false))] (resL ([]) Try.f76) (codeOf Try.f76) ⟨p, want, in', ()⟩ = live_Behind_p nf (fun p0 p1 p2 p3 v0 v1 v2 => iter nf (LC.F tab (live_Behind_phi nf) (fun _ F => iter nf F) live_Behind_keep 0 (live_Behind_L0 nf)) (live_Behind_m0 p0 p1 p2 p3 v0 v1 v2)) p want in' := by kernel_rfl
  rw [h]
  simp only [live_Behind_e0]
  rfl
def live_Behind_F (nf : Nat) (x : denPs [.val (.sl (.pair (.sl tI5fn1) (.pair (.int .i64) (.pair (.int .i64) (.pair (.int .i64) (.unit)))))) (.bor true false), .val (.int .u32) (.bor true false), .val (.sl (.int .u32)) (.bor true false)]) : Option (denL [(.sl (.int .u32), .own false (.bor false false))]) := live_Behind_f nf x.1 x.2.1 x.2.2.1
def live_Behind_C (nf : Nat) : Contract := ⟨[.val (.sl (.pair (.sl tI5fn1) (.pair (.int .i64) (.pair (.int .i64) (.pair (.int .i64) (.unit)))))) (.bor true false), .val (.int .u32) (.bor true false), .val (.sl (.int .u32)) (.bor true false)], [(.sl (.int .u32), .own false (.bor false false))], live_Behind_F nf, []⟩
theorem live_Behind_ok : FnOK Try.prog 76 := ⟨Try.f76, codeOf Try.f76, Try.func76, by kernel_rfl, by kernel_rfl⟩
theorem live_Behind_holds (nf : Nat) : Contract.Holds Try.prog 76 (live_Behind_C nf) :=
  fn_holds (Φ := live_Behind_phi nf) (keep := live_Behind_keep) (n := nf) ⟨tabs.1, tabs.2, (ctx_cons block_Next_ok (block_Next_holds nf) ctx_nil), mixed, bk_ok bkls rfl⟩ (fn := Try.f76) ⟨Try.func76, by kernel_rfl, by kernel_rfl, by kernel_rfl⟩ (fun x => live_Behind_eq nf x.1 x.2.1 x.2.2.1)

/-! codemason live.ahead -/
def live_ahead_phi (nf : Nat) : Nat → Option Contract := lookC []
def live_ahead_keep : Nat → List Nat := lookK []
def live_ahead_p (nf : Nat)  (s : Int × Int × Int × Int × Int × Unit) (live : Int) : Option (Int × Unit) :=
  bif decide (0 ≤ s.snd.fst) then
    bif s.fst == 1 then
      some ((IntKind.u32.wrap (↑(BitVec.ofInt IntKind.u32.bits live &&& ~~~BitVec.ofInt IntKind.u32.bits (shlI IntKind.u32 1 s.snd.fst)).toNat : Int), ()))
    else
      bif s.fst == 2 then
        bif decide (0 ≤ s.snd.snd.snd.snd.fst) then
          some ((IntKind.u32.wrap (↑(BitVec.ofInt IntKind.u32.bits (IntKind.u32.wrap (↑(BitVec.ofInt IntKind.u32.bits live &&& ~~~BitVec.ofInt IntKind.u32.bits (shlI IntKind.u32 1 s.snd.fst)).toNat : Int)) ||| BitVec.ofInt IntKind.u32.bits (shlI IntKind.u32 1 s.snd.snd.snd.snd.fst)).toNat : Int), ()))
        else
          none
      else
        bif decide (0 ≤ s.snd.snd.fst) then
          bif decide (0 ≤ s.snd.snd.snd.fst) then
            some ((IntKind.u32.wrap (↑(BitVec.ofInt IntKind.u32.bits (IntKind.u32.wrap (↑(BitVec.ofInt IntKind.u32.bits (IntKind.u32.wrap (↑(BitVec.ofInt IntKind.u32.bits live &&& ~~~BitVec.ofInt IntKind.u32.bits (shlI IntKind.u32 1 s.snd.fst)).toNat : Int)) ||| BitVec.ofInt IntKind.u32.bits (shlI IntKind.u32 1 s.snd.snd.fst)).toNat : Int)) ||| BitVec.ofInt IntKind.u32.bits (shlI IntKind.u32 1 s.snd.snd.snd.fst)).toNat : Int), ()))
          else
            none
        else
          none
  else
    none
def live_ahead_f (nf : Nat) (s : Int × Int × Int × Int × Int × Unit) (live : Int) : Option (Int × Unit) := live_ahead_p nf  s live
theorem live_ahead_eq (nf : Nat) (s : Int × Int × Int × Int × Int × Unit) (live : Int) : runF tab (live_ahead_phi nf) live_ahead_keep nf [PT.val tI5fn1 (Md.bor true false), PT.val (Ty.int IntKind.u32) (Md.bor true false)] [(Ty.int IntKind.u32, Md.bor false true)] (resL ([]) Try.f78) (codeOf Try.f78) ⟨s, live, ()⟩ = live_ahead_f nf s live := by
  have h : runF tab (live_ahead_phi nf) live_ahead_keep nf [PT.val tI5fn1 (Md.bor true false), PT.val (Ty.int IntKind.u32) (Md.bor true false)] [(Ty.int IntKind.u32, Md.bor false true)] (resL ([]) Try.f78) (codeOf Try.f78) ⟨s, live, ()⟩ = live_ahead_p nf  s live := by kernel_rfl
  exact h
def live_ahead_F (nf : Nat) (x : denPs [.val tI5fn1 (.bor true false), .val (.int .u32) (.bor true false)]) : Option (denL [(.int .u32, .bor false true)]) := live_ahead_f nf x.1 x.2.1
def live_ahead_C (nf : Nat) : Contract := ⟨[.val tI5fn1 (.bor true false), .val (.int .u32) (.bor true false)], [(.int .u32, .bor false true)], live_ahead_F nf, []⟩
theorem live_ahead_ok : FnOK Try.prog 78 := ⟨Try.f78, codeOf Try.f78, Try.func78, by kernel_rfl, by kernel_rfl⟩
theorem live_ahead_holds (nf : Nat) : Contract.Holds Try.prog 78 (live_ahead_C nf) :=
  fn_holds (Φ := live_ahead_phi nf) (keep := live_ahead_keep) (n := nf) ⟨tabs.1, tabs.2, ctx_nil, mixed, bk_ok bkls rfl⟩ (fn := Try.f78) ⟨Try.func78, by kernel_rfl, by kernel_rfl, by kernel_rfl⟩ (fun x => live_ahead_eq nf x.1 x.2.1)

/-! slices.Equal   uint32 uint32  -/
def slices_Equal_phi (nf : Nat) : Nat → Option Contract := lookC []
def slices_Equal_keep : Nat → List Nat := lookK [(0, [0, 1, 12, 13])]
def slices_Equal_b0 (nf : Nat) (s1 : List Int) (s2 : List Int) (g0 : Int → Option (Bool × Unit)) (t13 : Int) : Option (Bool × Unit) :=
  bif decide (t13 < (↑s1.length : Int)) then
    bif inb t13 s1.length then
      bif inb t13 s2.length then
        bif s1.getD t13.toNat 0 != s2.getD t13.toNat 0 then
          some ((false, ()))
        else
          g0 (IntKind.i64.wrap (t13 + 1))
      else
        none
    else
      none
  else
    some ((true, ()))
def slices_Equal_p (nf : Nat) (l0 : List Int → List Int → Int → Option (Bool × Unit)) (s1 : List Int) (s2 : List Int) : Option (Bool × Unit) :=
  bif (↑s1.length : Int) != (↑s2.length : Int) then
    some ((false, ()))
  else
    l0 s1 s2 0
def slices_Equal_l0 (nf : Nat) (s1 : List Int) (s2 : List Int) : Nat → Int → Option (Bool × Unit)
  | 0, _ => none
  | fu + 1, t13 => slices_Equal_b0 nf  s1 s2  (slices_Equal_l0 nf s1 s2  fu) t13
def slices_Equal_f (nf : Nat) (s1 : List Int) (s2 : List Int) : Option (Bool × Unit) := slices_Equal_p nf (fun p0 p1 v0 => slices_Equal_l0 nf p0 p1 nf v0) s1 s2
noncomputable def slices_Equal_L0 (nf : Nat) : LC (Bool × Unit) := theL (findL tab (slices_Equal_phi nf) (fun _ F => iter nf F) slices_Equal_keep 0 0 (codeOf Try.f120) (fin tab [(Ty.bool, Md.bor false true)] (resL ([]) Try.f120)) (fun _ _ => none) (fin tab [(Ty.bool, Md.bor false true)] (resL ([]) Try.f120)))
def slices_Equal_m0 (s1 : List Int) (s2 : List Int) (t13 : Int) : St := ⟨fresh, [(0, AV.v (Ty.int IntKind.u32).sl (Md.bor true false) s1), (1, AV.v (Ty.int IntKind.u32).sl (Md.bor true false) s2), (12, AV.v (Ty.int IntKind.i64) (Md.bor false true) (↑s1.length : Int)), (13, AV.v (Ty.int IntKind.i64) (Md.bor false true) t13)]⟩
theorem slices_Equal_h0 (nf : Nat)  (s1 : List Int) (s2 : List Int) (fu : Nat) (t13 : Int) : iter (fu + 1) (LC.F tab (slices_Equal_phi nf) (fun _ F => iter nf F) slices_Equal_keep 0 (slices_Equal_L0 nf )) (slices_Equal_m0 s1 s2 t13) = slices_Equal_b0 nf  s1 s2  (fun t13 => iter fu (LC.F tab (slices_Equal_phi nf) (fun _ F => iter nf F) slices_Equal_keep 0 (slices_Equal_L0 nf )) (slices_Equal_m0 s1 s2 t13)) t13 := by kernel_rfl
theorem slices_Equal_e0 (nf : Nat)  (s1 : List Int) (s2 : List Int) : ∀ (fu : Nat) (t13 : Int), iter fu (LC.F tab (slices_Equal_phi nf) (fun _ F => iter nf F) slices_Equal_keep 0 (slices_Equal_L0 nf )) (slices_Equal_m0 s1 s2 t13) = slices_Equal_l0 nf s1 s2  fu t13 := by
  intro fu
  induction fu with
  | zero => intros; rfl
  | succ fu ih =>
    intro t13
    rw [slices_Equal_h0 nf  s1 s2 fu t13]
    simp only [ih]
    rfl
theorem slices_Equal_eq (nf : Nat) (s1 : List Int) (s2 : List Int) : runF tab (slices_Equal_phi nf) slices_Equal_keep nf [PT.val (Ty.int IntKind.u32).sl (Md.bor true false), PT.val (Ty.int IntKind.u32).sl (Md.bor true false)] [(Ty.bool, Md.bor false true)] (resL ([]) Try.f120) (codeOf Try.f120) ⟨s1, s2, ()⟩ = slices_Equal_f nf s1 s2 := by
  have h : runF tab (slices_Equal_phi nf) slices_Equal_keep nf [PT.val (Ty.int IntKind.u32).sl (Md.bor true false), PT.val (Ty.int IntKind.u32).sl (Md.bor true false)] [(Ty.bool, Md.bor false true)] (resL ([]) Try.f120) (codeOf Try.f120) ⟨s1, s2, ()⟩ = slices_Equal_p nf (fun p0 p1 v0 => iter nf (LC.F tab (slices_Equal_phi nf) (fun _ F => iter nf F) slices_Equal_keep 0 (slices_Equal_L0 nf)) (slices_Equal_m0 p0 p1 v0)) s1 s2 := by kernel_rfl
  rw [h]
  simp only [slices_Equal_e0]
  rfl
def slices_Equal_F (nf : Nat) (x : denPs [.val (.sl (.int .u32)) (.bor true false), .val (.sl (.int .u32)) (.bor true false)]) : Option (denL [(.bool, .bor false true)]) := slices_Equal_f nf x.1 x.2.1
def slices_Equal_C (nf : Nat) : Contract := ⟨[.val (.sl (.int .u32)) (.bor true false), .val (.sl (.int .u32)) (.bor true false)], [(.bool, .bor false true)], slices_Equal_F nf, []⟩
theorem slices_Equal_ok : FnOK Try.prog 120 := ⟨Try.f120, codeOf Try.f120, Try.func120, by kernel_rfl, by kernel_rfl⟩
theorem slices_Equal_holds (nf : Nat) : Contract.Holds Try.prog 120 (slices_Equal_C nf) :=
  fn_holds (Φ := slices_Equal_phi nf) (keep := slices_Equal_keep) (n := nf) ⟨tabs.1, tabs.2, ctx_nil, mixed, bk_ok bkls rfl⟩ (fn := Try.f120) ⟨Try.func120, by kernel_rfl, by kernel_rfl, by kernel_rfl⟩ (fun x => slices_Equal_eq nf x.1 x.2.1)

/-! codemason live.solve -/
def live_solve_phi (nf : Nat) : Nat → Option Contract := lookC [(76, live_Behind_C nf), (78, live_ahead_C nf), (120, slices_Equal_C nf)]
def live_solve_keep : Nat → List Nat := lookK [(4, [0, 1, 5, 6, 7, 13, 18, 19, 20, 27, 28, 44]), (2, [0, 1, 5, 6, 13, 18, 19, 20, 44]), (0, [0, 1, 5, 13, 44])]
def live_solve_b0 (nf : Nat) (l2 : TBlfn1 → Int → List Int → List Int → Int → Option (List Int × Unit)) (p : TBlfn1) (want : Int) (g0 : List Int → Option (List Int × Unit)) (in' : List Int) : Option (List Int × Unit) :=
  Option.bind (live_Behind_f nf p want in') fun r =>
  l2 p want in' r.fst 0
def live_solve_b2 (nf : Nat) (l4 : TBlfn1 → Int → Int → List Int → List Int → Int → Int → Option (List Int × Unit)) (p : TBlfn1) (want : Int) (g0 : List Int → Option (List Int × Unit)) (g2 : List Int → List Int → Int → Option (List Int × Unit)) (in'2 : List Int) (next : List Int) (t20 : Int) : Option (List Int × Unit) :=
  bif decide (t20 < (↑p.length : Int)) then
    bif inb t20 p.length then
      bif (List.length (p.getD t20.toNat ([], 0, 0, 0, ())).fst).ble lim then
        l4 p want t20 in'2 next t20 ((↑(List.length (p.getD t20.toNat ([], 0, 0, 0, ())).fst) : Int))
      else
        none
    else
      none
  else
    Option.bind (slices_Equal_f nf next in'2) fun r3 =>
    bif r3.fst then
      some ((in'2, ()))
    else
      g0 next
def live_solve_b4 (nf : Nat) (p : TBlfn1) (want : Int) (t20 : Int) (g2 : List Int → List Int → Int → Option (List Int × Unit)) (g0 : List Int → Option (List Int × Unit)) (g4 : List Int → List Int → Int → Int → Option (List Int × Unit)) (in'3 : List Int) (next2 : List Int) (i : Int) (t28 : Int) : Option (List Int × Unit) :=
  bif decide (t28 ≤ 0) then
    g2 in'3 next2 (IntKind.i64.wrap (t20 + 1))
  else
    bif inb (t28 - 1) (List.length (p.getD t20.toNat ([], 0, 0, 0, ())).fst) then
      bif inb i next2.length then
        Option.bind (live_ahead_f nf (List.getD (p.getD t20.toNat ([], 0, 0, 0, ())).fst (Int.toNat (t28 - 1)) (0, 0, 0, 0, 0, ())) (next2.getD i.toNat 0)) fun r2 =>
        bif inb i next2.length then
          g4 in'3 (next2.set i.toNat r2.fst) i (t28 - 1)
        else
          none
      else
        none
    else
      none
def live_solve_p (nf : Nat) (l0 : TBlfn1 → Int → List Int → Option (List Int × Unit)) (p : TBlfn1) (want : Int) : Option (List Int × Unit) :=
  bif decide (0 ≤ (↑p.length : Int)) && decide ((↑p.length : Int) ≤ (↑p.length : Int)) && decide ((↑p.length : Int) ≤ (↑lim : Int)) then
    l0 p want (List.replicate (↑p.length : Int).toNat 0)
  else
    none
def live_solve_l4 (nf : Nat) (p : TBlfn1) (want : Int) (t20 : Int) (g2 : List Int → List Int → Int → Option (List Int × Unit)) (g0 : List Int → Option (List Int × Unit)) : Nat → List Int → List Int → Int → Int → Option (List Int × Unit)
  | 0, _, _, _, _ => none
  | fu + 1, in'3, next2, i, t28 => live_solve_b4 nf  p want t20 g2 g0 (live_solve_l4 nf p want t20 g2 g0 fu) in'3 next2 i t28
def live_solve_l2 (nf : Nat) (p : TBlfn1) (want : Int) (g0 : List Int → Option (List Int × Unit)) : Nat → List Int → List Int → Int → Option (List Int × Unit)
  | 0, _, _, _ => none
  | fu + 1, in'2, next, t20 => live_solve_b2 nf (fun _ _ p2 v0 v1 v2 v3 => live_solve_l4 nf p want p2 (fun in'2 next t20 => live_solve_l2 nf p want g0 fu in'2 next t20) g0 nf v0 v1 v2 v3) p want g0 (live_solve_l2 nf p want g0 fu) in'2 next t20
def live_solve_l0 (nf : Nat) (p : TBlfn1) (want : Int) : Nat → List Int → Option (List Int × Unit)
  | 0, _ => none
  | fu + 1, in' => live_solve_b0 nf (fun _ _ v0 v1 v2 => live_solve_l2 nf p want (fun in' => live_solve_l0 nf p want  fu in') nf v0 v1 v2) p want  (live_solve_l0 nf p want  fu) in'
def live_solve_f (nf : Nat) (p : TBlfn1) (want : Int) : Option (List Int × Unit) := live_solve_p nf (fun p0 p1 v0 => live_solve_l0 nf p0 p1 nf v0) p want
noncomputable def live_solve_L0 (nf : Nat) : LC (List Int × Unit) := theL (findL tab (live_solve_phi nf) (fun _ F => iter nf F) live_solve_keep 0 0 (codeOf Try.f72) (fin tab [((Ty.int IntKind.u32).sl, Md.own false (Md.bor false false))] (resL ([]) Try.f72)) (fun _ _ => none) (fin tab [((Ty.int IntKind.u32).sl, Md.own false (Md.bor false false))] (resL ([]) Try.f72)))
def live_solve_m0 (p : TBlfn1) (want : Int) (in' : List Int) : St := ⟨fresh, [(0, AV.v (tI5fn1.sl.pair ((Ty.int IntKind.i64).pair tI2fn1)).sl (Md.bor true false) p), (1, AV.v (Ty.int IntKind.u32) (Md.bor false true) want), (5, AV.ow 500005 (Ty.int IntKind.u32).sl (Md.own false (Md.bor false false)) in'), (13, AV.dead), (44, AV.dead)]⟩
noncomputable def live_solve_L2 (nf : Nat) (G0 : St → Option (List Int × Unit)) : LC (List Int × Unit) := theL (findL tab (live_solve_phi nf) (fun _ F => iter nf F) live_solve_keep 2 0 (live_solve_L0 nf ).c (fun st => norm (live_solve_keep 0) st G0) (live_solve_L0 nf ).Kx (live_solve_L0 nf ).Kr)
def live_solve_m2 (p : TBlfn1) (want : Int) (in'2 : List Int) (next : List Int) (t20 : Int) : St := ⟨fresh, [(0, AV.v (tI5fn1.sl.pair ((Ty.int IntKind.i64).pair tI2fn1)).sl (Md.bor true false) p), (1, AV.v (Ty.int IntKind.u32) (Md.bor false true) want), (5, AV.ow 500005 (Ty.int IntKind.u32).sl (Md.own false (Md.bor false false)) in'2), (6, AV.box 6 500006 (Ty.int IntKind.u32).sl (Md.own false (Md.bor false false)) next), (13, AV.dead), (18, AV.v (tI5fn1.sl.pair ((Ty.int IntKind.i64).pair tI2fn1)).sl (Md.bor true false) p), (19, AV.v (Ty.int IntKind.i64) (Md.bor false true) (↑p.length : Int)), (20, AV.v (Ty.int IntKind.i64) (Md.bor false true) t20), (44, AV.dead)]⟩
noncomputable def live_solve_L4 (nf : Nat) (G0 : St → Option (List Int × Unit)) (G2 : St → Option (List Int × Unit)) : LC (List Int × Unit) := theL (findL tab (live_solve_phi nf) (fun _ F => iter nf F) live_solve_keep 4 2 (live_solve_L2 nf G0).c (fun st => norm (live_solve_keep 2) st G2) (live_solve_L2 nf G0).Kx (live_solve_L2 nf G0).Kr)
def live_solve_m4 (p : TBlfn1) (want : Int) (t20 : Int) (in'3 : List Int) (next2 : List Int) (i : Int) (t28 : Int) : St := ⟨fresh, [(0, AV.v (tI5fn1.sl.pair ((Ty.int IntKind.i64).pair tI2fn1)).sl (Md.bor true false) p), (1, AV.v (Ty.int IntKind.u32) (Md.bor false true) want), (5, AV.ow 500005 (Ty.int IntKind.u32).sl (Md.own false (Md.bor false false)) in'3), (6, AV.box 6 500006 (Ty.int IntKind.u32).sl (Md.own false (Md.bor false false)) next2), (7, AV.box 7 500007 (Ty.int IntKind.i64) (Md.bor false true) i), (13, AV.dead), (18, AV.v (tI5fn1.sl.pair ((Ty.int IntKind.i64).pair tI2fn1)).sl (Md.bor true false) p), (19, AV.v (Ty.int IntKind.i64) (Md.bor false true) (↑p.length : Int)), (20, AV.v (Ty.int IntKind.i64) (Md.bor false true) t20), (27, AV.clo 121 [AV.rop tI5fn1.sl (Md.bor true false) (p.getD t20.toNat ([], 0, 0, 0, ())).fst]), (28, AV.v (Ty.int IntKind.i64) (Md.bor false true) t28), (44, AV.dead)]⟩
theorem live_solve_h4 (nf : Nat) (G0 : St → Option (List Int × Unit)) (G2 : St → Option (List Int × Unit)) (p : TBlfn1) (want : Int) (t20 : Int) (fu : Nat) (in'3 : List Int) (next2 : List Int) (i : Int) (t28 : Int) : iter (fu + 1) (LC.F tab (live_solve_phi nf) (fun _ F => iter nf F) live_solve_keep 4 (live_solve_L4 nf G0 G2)) (live_solve_m4 p want t20 in'3 next2 i t28) = live_solve_b4 nf  p want t20 (fun in'2 next t20 => G2 (live_solve_m2 p want in'2 next t20)) (fun in' => G0 (live_solve_m0 p want in')) (fun in'3 next2 i t28 => iter fu (LC.F tab (live_solve_phi nf) (fun _ F => iter nf F) live_solve_keep 4 (live_solve_L4 nf G0 G2)) (live_solve_m4 p want t20 in'3 next2 i t28)) in'3 next2 i t28 := by kernel_rfl
theorem live_solve_e4 (nf : Nat) (G0 : St → Option (List Int × Unit)) (G2 : St → Option (List Int × Unit)) (p : TBlfn1) (want : Int) (t20 : Int) : ∀ (fu : Nat) (in'3 : List Int) (next2 : List Int) (i : Int) (t28 : Int), iter fu (LC.F tab (live_solve_phi nf) (fun _ F => iter nf F) live_solve_keep 4 (live_solve_L4 nf G0 G2)) (live_solve_m4 p want t20 in'3 next2 i t28) = live_solve_l4 nf p want t20 (fun in'2 next t20 => G2 (live_solve_m2 p want in'2 next t20)) (fun in' => G0 (live_solve_m0 p want in')) fu in'3 next2 i t28 := by
  intro fu
  induction fu with
  | zero => intros; rfl
  | succ fu ih =>
    intro in'3 next2 i t28
    rw [live_solve_h4 nf G0 G2 p want t20 fu in'3 next2 i t28]
    simp only [ih]
    rfl
theorem live_solve_h2 (nf : Nat) (G0 : St → Option (List Int × Unit)) (p : TBlfn1) (want : Int) (fu : Nat) (in'2 : List Int) (next : List Int) (t20 : Int) : iter (fu + 1) (LC.F tab (live_solve_phi nf) (fun _ F => iter nf F) live_solve_keep 2 (live_solve_L2 nf G0)) (live_solve_m2 p want in'2 next t20) = live_solve_b2 nf (fun _ _ p2 v0 v1 v2 v3 => iter nf (LC.F tab (live_solve_phi nf) (fun _ F => iter nf F) live_solve_keep 4 (live_solve_L4 nf G0 (iter fu (LC.F tab (live_solve_phi nf) (fun _ F => iter nf F) live_solve_keep 2 (live_solve_L2 nf G0))))) (live_solve_m4 p want p2 v0 v1 v2 v3)) p want (fun in' => G0 (live_solve_m0 p want in')) (fun in'2 next t20 => iter fu (LC.F tab (live_solve_phi nf) (fun _ F => iter nf F) live_solve_keep 2 (live_solve_L2 nf G0)) (live_solve_m2 p want in'2 next t20)) in'2 next t20 := by kernel_rfl
theorem live_solve_e2 (nf : Nat) (G0 : St → Option (List Int × Unit)) (p : TBlfn1) (want : Int) : ∀ (fu : Nat) (in'2 : List Int) (next : List Int) (t20 : Int), iter fu (LC.F tab (live_solve_phi nf) (fun _ F => iter nf F) live_solve_keep 2 (live_solve_L2 nf G0)) (live_solve_m2 p want in'2 next t20) = live_solve_l2 nf p want (fun in' => G0 (live_solve_m0 p want in')) fu in'2 next t20 := by
  intro fu
  induction fu with
  | zero => intros; rfl
  | succ fu ih =>
    intro in'2 next t20
    rw [live_solve_h2 nf G0 p want fu in'2 next t20]
    simp only [ih, live_solve_e4]
    rfl
theorem live_solve_h0 (nf : Nat)  (p : TBlfn1) (want : Int) (fu : Nat) (in' : List Int) : iter (fu + 1) (LC.F tab (live_solve_phi nf) (fun _ F => iter nf F) live_solve_keep 0 (live_solve_L0 nf )) (live_solve_m0 p want in') = live_solve_b0 nf (fun _ _ v0 v1 v2 => iter nf (LC.F tab (live_solve_phi nf) (fun _ F => iter nf F) live_solve_keep 2 (live_solve_L2 nf (iter fu (LC.F tab (live_solve_phi nf) (fun _ F => iter nf F) live_solve_keep 0 (live_solve_L0 nf ))))) (live_solve_m2 p want v0 v1 v2)) p want  (fun in' => iter fu (LC.F tab (live_solve_phi nf) (fun _ F => iter nf F) live_solve_keep 0 (live_solve_L0 nf )) (live_solve_m0 p want in')) in' := by kernel_rfl
theorem live_solve_e0 (nf : Nat)  (p : TBlfn1) (want : Int) : ∀ (fu : Nat) (in' : List Int), iter fu (LC.F tab (live_solve_phi nf) (fun _ F => iter nf F) live_solve_keep 0 (live_solve_L0 nf )) (live_solve_m0 p want in') = live_solve_l0 nf p want  fu in' := by
  intro fu
  induction fu with
  | zero => intros; rfl
  | succ fu ih =>
    intro in'
    rw [live_solve_h0 nf  p want fu in']
    simp only [ih, live_solve_e2]
    rfl
theorem live_solve_eq (nf : Nat) (p : TBlfn1) (want : Int) : runF tab (live_solve_phi nf) live_solve_keep nf [PT.val (tI5fn1.sl.pair ((Ty.int IntKind.i64).pair tI2fn1)).sl (Md.bor true false), PT.val (Ty.int IntKind.u32) (Md.bor true false)] [((Ty.int IntKind.u32).sl, Md.own false (Md.bor false false))] (resL ([]) Try.f72) (codeOf Try.f72) ⟨p, want, ()⟩ = live_solve_f nf p want := by
  have h : runF tab (live_solve_phi nf) live_solve_keep nf [PT.val (tI5fn1.sl.pair ((Ty.int IntKind.i64).pair tI2fn1)).sl (Md.bor true false), PT.val (Ty.int IntKind.u32) (Md.bor true false)] [((Ty.int IntKind.u32).sl, Md.own false (Md.bor false false))] (resL ([]) Try.f72) (codeOf Try.f72) ⟨p, want, ()⟩ = live_solve_p nf (fun p0 p1 v0 => iter nf (LC.F tab (live_solve_phi nf) (fun _ F => iter nf F) live_solve_keep 0 (live_solve_L0 nf)) (live_solve_m0 p0 p1 v0)) p want := by kernel_rfl
  rw [h]
  simp only [live_solve_e0]
  rfl
def live_solve_F (nf : Nat) (x : denPs [.val (.sl (.pair (.sl tI5fn1) (.pair (.int .i64) (.pair (.int .i64) (.pair (.int .i64) (.unit)))))) (.bor true false), .val (.int .u32) (.bor true false)]) : Option (denL [(.sl (.int .u32), .own false (.bor false false))]) := live_solve_f nf x.1 x.2.1
def live_solve_C (nf : Nat) : Contract := ⟨[.val (.sl (.pair (.sl tI5fn1) (.pair (.int .i64) (.pair (.int .i64) (.pair (.int .i64) (.unit)))))) (.bor true false), .val (.int .u32) (.bor true false)], [(.sl (.int .u32), .own false (.bor false false))], live_solve_F nf, []⟩
theorem live_solve_ok : FnOK Try.prog 72 := ⟨Try.f72, codeOf Try.f72, Try.func72, by kernel_rfl, by kernel_rfl⟩
theorem live_solve_holds (nf : Nat) : Contract.Holds Try.prog 72 (live_solve_C nf) :=
  fn_holds (Φ := live_solve_phi nf) (keep := live_solve_keep) (n := nf) ⟨tabs.1, tabs.2, (ctx_cons live_Behind_ok (live_Behind_holds nf) (ctx_cons live_ahead_ok (live_ahead_holds nf) (ctx_cons slices_Equal_ok (slices_Equal_holds nf) ctx_nil))), mixed, bk_ok bkls rfl⟩ (fn := Try.f72) ⟨Try.func72, by kernel_rfl, by kernel_rfl, by kernel_rfl⟩ (fun x => live_solve_eq nf x.1 x.2.1)

/-! codemason live.In -/
def live_In_phi (nf : Nat) : Nat → Option Contract := lookC [(71, live_wrong_C nf), (72, live_solve_C nf)]
def live_In_keep : Nat → List Nat := lookK []
def live_In_p (nf : Nat)  (vars : Int) (p : TBlfn1) (want : Int) : Option (List Int × Int × Unit) :=
  Option.bind (live_wrong_f nf vars p want) fun r =>
  bif r.fst != 0 then
    some (([], r.fst, ()))
  else
    Option.bind (live_solve_f nf p want) fun r2 =>
    some ((r2.fst, 0, ()))
def live_In_f (nf : Nat) (vars : Int) (p : TBlfn1) (want : Int) : Option (List Int × Int × Unit) := live_In_p nf  vars p want
theorem live_In_eq (nf : Nat) (vars : Int) (p : TBlfn1) (want : Int) : runF tab (live_In_phi nf) live_In_keep nf [PT.val (Ty.int IntKind.i64) (Md.bor true false), PT.val (tI5fn1.sl.pair ((Ty.int IntKind.i64).pair tI2fn1)).sl (Md.bor true false), PT.val (Ty.int IntKind.u32) (Md.bor true false)] [((Ty.int IntKind.u32).sl, Md.own false (Md.bor false false)), (Ty.int IntKind.i64, Md.bor false true)] (resL ([]) Try.f28) (codeOf Try.f28) ⟨vars, p, want, ()⟩ = live_In_f nf vars p want := by
  have h : runF tab (live_In_phi nf) live_In_keep nf [PT.val (Ty.int IntKind.i64) (Md.bor true false), PT.val (tI5fn1.sl.pair ((Ty.int IntKind.i64).pair tI2fn1)).sl (Md.bor true false), PT.val (Ty.int IntKind.u32) (Md.bor true false)] [((Ty.int IntKind.u32).sl, Md.own false (Md.bor false false)), (Ty.int IntKind.i64, Md.bor false true)] (resL ([]) Try.f28) (codeOf Try.f28) ⟨vars, p, want, ()⟩ = live_In_p nf  vars p want := by kernel_rfl
  exact h
def live_In_F (nf : Nat) (x : denPs [.val (.int .i64) (.bor true false), .val (.sl (.pair (.sl tI5fn1) (.pair (.int .i64) (.pair (.int .i64) (.pair (.int .i64) (.unit)))))) (.bor true false), .val (.int .u32) (.bor true false)]) : Option (denL [(.sl (.int .u32), .own false (.bor false false)), (.int .i64, .bor false true)]) := live_In_f nf x.1 x.2.1 x.2.2.1
def live_In_C (nf : Nat) : Contract := ⟨[.val (.int .i64) (.bor true false), .val (.sl (.pair (.sl tI5fn1) (.pair (.int .i64) (.pair (.int .i64) (.pair (.int .i64) (.unit)))))) (.bor true false), .val (.int .u32) (.bor true false)], [(.sl (.int .u32), .own false (.bor false false)), (.int .i64, .bor false true)], live_In_F nf, []⟩
theorem live_In_ok : FnOK Try.prog 28 := ⟨Try.f28, codeOf Try.f28, Try.func28, by kernel_rfl, by kernel_rfl⟩
theorem live_In_holds (nf : Nat) : Contract.Holds Try.prog 28 (live_In_C nf) :=
  fn_holds (Φ := live_In_phi nf) (keep := live_In_keep) (n := nf) ⟨tabs.1, tabs.2, (ctx_cons live_wrong_ok (live_wrong_holds nf) (ctx_cons live_solve_ok (live_solve_holds nf) ctx_nil)), mixed, bk_ok bkls rfl⟩ (fn := Try.f28) ⟨Try.func28, by kernel_rfl, by kernel_rfl, by kernel_rfl⟩ (fun x => live_In_eq nf x.1 x.2.1 x.2.2.1)

/-! codemason codemasonref.Inside -/
def ref_Inside_phi (nf : Nat) : Nat → Option Contract := lookC []
def ref_Inside_keep : Nat → List Nat := lookK [(0, [0, 1, 7, 8, 9])]
def ref_Inside_b0 (nf : Nat) (n' : Int) (l' : List Int) (g0 : Int → Option (Bool × Unit)) (t9 : Int) : Option (Bool × Unit) :=
  bif decide (t9 < (↑l'.length : Int)) then
    bif inb t9 l'.length then
      bif decide (l'.getD t9.toNat 0 < 0) then
        some ((false, ()))
      else
        bif decide (l'.getD t9.toNat 0 ≥ n') then
          some ((false, ()))
        else
          g0 (IntKind.i64.wrap (t9 + 1))
    else
      none
  else
    some ((true, ()))
def ref_Inside_p (nf : Nat) (l0 : Int → List Int → Int → Option (Bool × Unit)) (n' : Int) (l' : List Int) : Option (Bool × Unit) :=
  l0 n' l' 0
def ref_Inside_l0 (nf : Nat) (n' : Int) (l' : List Int) : Nat → Int → Option (Bool × Unit)
  | 0, _ => none
  | fu + 1, t9 => ref_Inside_b0 nf  n' l'  (ref_Inside_l0 nf n' l'  fu) t9
def ref_Inside_f (nf : Nat) (n' : Int) (l' : List Int) : Option (Bool × Unit) := ref_Inside_p nf (fun p0 p1 v0 => ref_Inside_l0 nf p0 p1 nf v0) n' l'
noncomputable def ref_Inside_L0 (nf : Nat) : LC (Bool × Unit) := theL (findL tab (ref_Inside_phi nf) (fun _ F => iter nf F) ref_Inside_keep 0 0 (codeOf Try.f55) (fin tab [(Ty.bool, Md.bor false true)] (resL ([]) Try.f55)) (fun _ _ => none) (fin tab [(Ty.bool, Md.bor false true)] (resL ([]) Try.f55)))
def ref_Inside_m0 (n' : Int) (l' : List Int) (t9 : Int) : St := ⟨fresh, [(0, AV.v (Ty.int IntKind.i64) (Md.bor false true) n'), (1, AV.v (Ty.int IntKind.i64).sl (Md.bor true false) l'), (7, AV.v (Ty.int IntKind.i64).sl (Md.bor true false) l'), (8, AV.v (Ty.int IntKind.i64) (Md.bor false true) (↑l'.length : Int)), (9, AV.v (Ty.int IntKind.i64) (Md.bor false true) t9)]⟩
theorem ref_Inside_h0 (nf : Nat)  (n' : Int) (l' : List Int) (fu : Nat) (t9 : Int) : iter (fu + 1) (LC.F tab (ref_Inside_phi nf) (fun _ F => iter nf F) ref_Inside_keep 0 (ref_Inside_L0 nf )) (ref_Inside_m0 n' l' t9) = ref_Inside_b0 nf  n' l'  (fun t9 => iter fu (LC.F tab (ref_Inside_phi nf) (fun _ F => iter nf F) ref_Inside_keep 0 (ref_Inside_L0 nf )) (ref_Inside_m0 n' l' t9)) t9 := by kernel_rfl
theorem ref_Inside_e0 (nf : Nat)  (n' : Int) (l' : List Int) : ∀ (fu : Nat) (t9 : Int), iter fu (LC.F tab (ref_Inside_phi nf) (fun _ F => iter nf F) ref_Inside_keep 0 (ref_Inside_L0 nf )) (ref_Inside_m0 n' l' t9) = ref_Inside_l0 nf n' l'  fu t9 := by
  intro fu
  induction fu with
  | zero => intros; rfl
  | succ fu ih =>
    intro t9
    rw [ref_Inside_h0 nf  n' l' fu t9]
    simp only [ih]
    rfl
theorem ref_Inside_eq (nf : Nat) (n' : Int) (l' : List Int) : runF tab (ref_Inside_phi nf) ref_Inside_keep nf [PT.val (Ty.int IntKind.i64) (Md.bor true false), PT.val (Ty.int IntKind.i64).sl (Md.bor true false)] [(Ty.bool, Md.bor false true)] (resL ([]) Try.f55) (codeOf Try.f55) ⟨n', l', ()⟩ = ref_Inside_f nf n' l' := by
  have h : runF tab (ref_Inside_phi nf) ref_Inside_keep nf [PT.val (Ty.int IntKind.i64) (Md.bor true false), PT.val (Ty.int IntKind.i64).sl (Md.bor true false)] [(Ty.bool, Md.bor false true)] (resL ([]) Try.f55) (codeOf Try.f55) ⟨n', l', ()⟩ = ref_Inside_p nf (fun p0 p1 v0 => iter nf (LC.F tab (ref_Inside_phi nf) (fun _ F => iter nf F) ref_Inside_keep 0 (ref_Inside_L0 nf)) (ref_Inside_m0 p0 p1 v0)) n' l' := by kernel_rfl
  rw [h]
  simp only [ref_Inside_e0]
  rfl
def ref_Inside_F (nf : Nat) (x : denPs [.val (.int .i64) (.bor true false), .val (.sl (.int .i64)) (.bor true false)]) : Option (denL [(.bool, .bor false true)]) := ref_Inside_f nf x.1 x.2.1
def ref_Inside_C (nf : Nat) : Contract := ⟨[.val (.int .i64) (.bor true false), .val (.sl (.int .i64)) (.bor true false)], [(.bool, .bor false true)], ref_Inside_F nf, []⟩
theorem ref_Inside_ok : FnOK Try.prog 55 := ⟨Try.f55, codeOf Try.f55, Try.func55, by kernel_rfl, by kernel_rfl⟩
theorem ref_Inside_holds (nf : Nat) : Contract.Holds Try.prog 55 (ref_Inside_C nf) :=
  fn_holds (Φ := ref_Inside_phi nf) (keep := ref_Inside_keep) (n := nf) ⟨tabs.1, tabs.2, ctx_nil, mixed, bk_ok bkls rfl⟩ (fn := Try.f55) ⟨Try.func55, by kernel_rfl, by kernel_rfl, by kernel_rfl⟩ (fun x => ref_Inside_eq nf x.1 x.2.1)

/-! codemason codemasonref.Value -/
def ref_Value_phi (nf : Nat) : Nat → Option Contract := lookC []
def ref_Value_keep : Nat → List Nat := lookK []
def ref_Value_p (nf : Nat)  (x : Int) : Option (Bool × Unit) :=
  bif decide (x ≥ 0) then
    some ((decide (x ≤ 255), ()))
  else
    some ((false, ()))
def ref_Value_f (nf : Nat) (x : Int) : Option (Bool × Unit) := ref_Value_p nf  x
theorem ref_Value_eq (nf : Nat) (x : Int) : runF tab (ref_Value_phi nf) ref_Value_keep nf [PT.val (Ty.int IntKind.i64) (Md.bor true false)] [(Ty.bool, Md.bor false true)] (resL ([]) Try.f96) (codeOf Try.f96) ⟨x, ()⟩ = ref_Value_f nf x := by
  have h : runF tab (ref_Value_phi nf) ref_Value_keep nf [PT.val (Ty.int IntKind.i64) (Md.bor true false)] [(Ty.bool, Md.bor false true)] (resL ([]) Try.f96) (codeOf Try.f96) ⟨x, ()⟩ = ref_Value_p nf  x := by kernel_rfl
  exact h
def ref_Value_F (nf : Nat) (x : denPs [.val (.int .i64) (.bor true false)]) : Option (denL [(.bool, .bor false true)]) := ref_Value_f nf x.1
def ref_Value_C (nf : Nat) : Contract := ⟨[.val (.int .i64) (.bor true false)], [(.bool, .bor false true)], ref_Value_F nf, []⟩
theorem ref_Value_ok : FnOK Try.prog 96 := ⟨Try.f96, codeOf Try.f96, Try.func96, by kernel_rfl, by kernel_rfl⟩
theorem ref_Value_holds (nf : Nat) : Contract.Holds Try.prog 96 (ref_Value_C nf) :=
  fn_holds (Φ := ref_Value_phi nf) (keep := ref_Value_keep) (n := nf) ⟨tabs.1, tabs.2, ctx_nil, mixed, bk_ok bkls rfl⟩ (fn := Try.f96) ⟨Try.func96, by kernel_rfl, by kernel_rfl, by kernel_rfl⟩ (fun x => ref_Value_eq nf x.1)

/-! codemason codemasonref.StepCheck -/
def ref_StepCheck_phi (nf : Nat) : Nat → Option Contract := lookC [(55, ref_Inside_C nf), (96, ref_Value_C nf)]
def ref_StepCheck_keep : Nat → List Nat := lookK []
def ref_StepCheck_p (nf : Nat)  (vars : Int) (regs : Int) (s : Int × Int × Int × Int × Int × Unit) : Option (Int × Unit) :=
  bif decide (s.fst < 1) then
    some ((6, ()))
  else
    bif decide (s.fst > 6) then
      some ((6, ()))
    else
      bif s.fst == 1 then
        Option.bind (ref_Value_f nf s.snd.snd.snd.snd.fst) fun r =>
        bif !r.fst then
          some ((4, ()))
        else
          bif s.fst == 2 then
            Option.bind (ref_Inside_f nf vars ([s.snd.snd.snd.snd.fst])) fun r2 =>
            bif !r2.fst then
              some ((4, ()))
            else
              Option.bind (ref_Inside_f nf regs ([s.snd.fst])) fun r3 =>
              bif !r3.fst then
                some ((2, ()))
              else
                bif decide (s.fst ≥ 3) then
                  Option.bind (ref_Inside_f nf regs ([s.snd.snd.fst, s.snd.snd.snd.fst])) fun r4 =>
                  bif !r4.fst then
                    some ((2, ()))
                  else
                    some ((0, ()))
                else
                  some ((0, ()))
          else
            Option.bind (ref_Inside_f nf regs ([s.snd.fst])) fun r5 =>
            bif !r5.fst then
              some ((2, ()))
            else
              bif decide (s.fst ≥ 3) then
                Option.bind (ref_Inside_f nf regs ([s.snd.snd.fst, s.snd.snd.snd.fst])) fun r6 =>
                bif !r6.fst then
                  some ((2, ()))
                else
                  some ((0, ()))
              else
                some ((0, ()))
      else
        bif s.fst == 2 then
          Option.bind (ref_Inside_f nf vars ([s.snd.snd.snd.snd.fst])) fun r7 =>
          bif !r7.fst then
            some ((4, ()))
          else
            Option.bind (ref_Inside_f nf regs ([s.snd.fst])) fun r8 =>
            bif !r8.fst then
              some ((2, ()))
            else
              bif decide (s.fst ≥ 3) then
                Option.bind (ref_Inside_f nf regs ([s.snd.snd.fst, s.snd.snd.snd.fst])) fun r9 =>
                bif !r9.fst then
                  some ((2, ()))
                else
                  some ((0, ()))
              else
                some ((0, ()))
        else
          Option.bind (ref_Inside_f nf regs ([s.snd.fst])) fun r10 =>
          bif !r10.fst then
            some ((2, ()))
          else
            bif decide (s.fst ≥ 3) then
              Option.bind (ref_Inside_f nf regs ([s.snd.snd.fst, s.snd.snd.snd.fst])) fun r11 =>
              bif !r11.fst then
                some ((2, ()))
              else
                some ((0, ()))
            else
              some ((0, ()))
def ref_StepCheck_f (nf : Nat) (vars : Int) (regs : Int) (s : Int × Int × Int × Int × Int × Unit) : Option (Int × Unit) := ref_StepCheck_p nf  vars regs s
theorem ref_StepCheck_eq (nf : Nat) (vars : Int) (regs : Int) (s : Int × Int × Int × Int × Int × Unit) : runF tab (ref_StepCheck_phi nf) ref_StepCheck_keep nf [PT.val (Ty.int IntKind.i64) (Md.bor true false), PT.val (Ty.int IntKind.i64) (Md.bor true false), PT.val tI5fn1 (Md.bor true false)] [(Ty.int IntKind.i64, Md.bor false true)] (resL ([]) Try.f66) (codeOf Try.f66) ⟨vars, regs, s, ()⟩ = ref_StepCheck_f nf vars regs s := by
  have h : runF tab (ref_StepCheck_phi nf) ref_StepCheck_keep nf [PT.val (Ty.int IntKind.i64) (Md.bor true false), PT.val (Ty.int IntKind.i64) (Md.bor true false), PT.val tI5fn1 (Md.bor true false)] [(Ty.int IntKind.i64, Md.bor false true)] (resL ([]) Try.f66) (codeOf Try.f66) ⟨vars, regs, s, ()⟩ = ref_StepCheck_p nf  vars regs s := by kernel_rfl
  exact h
def ref_StepCheck_F (nf : Nat) (x : denPs [.val (.int .i64) (.bor true false), .val (.int .i64) (.bor true false), .val tI5fn1 (.bor true false)]) : Option (denL [(.int .i64, .bor false true)]) := ref_StepCheck_f nf x.1 x.2.1 x.2.2.1
def ref_StepCheck_C (nf : Nat) : Contract := ⟨[.val (.int .i64) (.bor true false), .val (.int .i64) (.bor true false), .val tI5fn1 (.bor true false)], [(.int .i64, .bor false true)], ref_StepCheck_F nf, []⟩
theorem ref_StepCheck_ok : FnOK Try.prog 66 := ⟨Try.f66, codeOf Try.f66, Try.func66, by kernel_rfl, by kernel_rfl⟩
theorem ref_StepCheck_holds (nf : Nat) : Contract.Holds Try.prog 66 (ref_StepCheck_C nf) :=
  fn_holds (Φ := ref_StepCheck_phi nf) (keep := ref_StepCheck_keep) (n := nf) ⟨tabs.1, tabs.2, (ctx_cons ref_Inside_ok (ref_Inside_holds nf) (ctx_cons ref_Value_ok (ref_Value_holds nf) ctx_nil)), mixed, bk_ok bkls rfl⟩ (fn := Try.f66) ⟨Try.func66, by kernel_rfl, by kernel_rfl, by kernel_rfl⟩ (fun x => ref_StepCheck_eq nf x.1 x.2.1 x.2.2.1)

/-! codemason codemasonref.ProgCheck -/
def ref_ProgCheck_phi (nf : Nat) : Nat → Option Contract := lookC [(55, ref_Inside_C nf), (66, ref_StepCheck_C nf)]
def ref_ProgCheck_keep : Nat → List Nat := lookK [(4, [0, 1, 9, 45, 46, 47, 51, 52, 53, 54]), (2, [0, 1, 45, 46, 47]), (0, [0, 1, 5, 13, 14, 15])]
def ref_ProgCheck_b0 (nf : Nat) (l2 : Int → TBlfn1 → Int → Option (Int × Unit)) (vars : Int) (p : TBlfn1) (g0 : Int → Int → Option (Int × Unit)) (many : Int) (t15 : Int) : Option (Int × Unit) :=
  bif decide (t15 < (↑p.length : Int)) then
    bif inb t15 p.length then
      g0 (IntKind.i64.wrap (many + (↑(List.length (p.getD t15.toNat ([], 0, 0, 0, ())).fst) : Int))) (IntKind.i64.wrap (t15 + 1))
    else
      none
  else
    bif decide (vars < 1) then
      some ((1, ()))
    else
      bif decide (vars > 6) then
        some ((1, ()))
      else
        bif decide ((↑p.length : Int) < 1) then
          some ((1, ()))
        else
          bif decide ((↑p.length : Int) > 8) then
            some ((1, ()))
          else
            bif decide (many > 20) then
              some ((1, ()))
            else
              l2 vars p 0
def ref_ProgCheck_b2 (nf : Nat) (l4 : Int → TBlfn1 → Int → List (Int × Int × Int × Int × Int × Unit) × Int × Int × Int × Unit → Int → Option (Int × Unit)) (vars : Int) (p : TBlfn1) (g2 : Int → Option (Int × Unit)) (t47 : Int) : Option (Int × Unit) :=
  bif decide (t47 < (↑p.length : Int)) then
    bif inb t47 p.length then
      l4 vars p t47 (p.getD t47.toNat ([], 0, 0, 0, ())) 0
    else
      none
  else
    some ((0, ()))
def ref_ProgCheck_b4 (nf : Nat) (vars : Int) (p : TBlfn1) (t47 : Int) (g2 : Int → Option (Int × Unit)) (g4 : List (Int × Int × Int × Int × Int × Unit) × Int × Int × Int × Unit → Int → Option (Int × Unit)) (b : List (Int × Int × Int × Int × Int × Unit) × Int × Int × Int × Unit) (t54 : Int) : Option (Int × Unit) :=
  bif decide (t54 < (↑(List.length (p.getD t47.toNat ([], 0, 0, 0, ())).fst) : Int)) then
    bif inb t54 (List.length (p.getD t47.toNat ([], 0, 0, 0, ())).fst) then
      Option.bind (ref_StepCheck_f nf vars vars (List.getD (p.getD t47.toNat ([], 0, 0, 0, ())).fst t54.toNat (0, 0, 0, 0, 0, ()))) fun r =>
      bif r.fst != 0 then
        some ((r.fst, ()))
      else
        g4 b (IntKind.i64.wrap (t54 + 1))
    else
      none
  else
    bif b.snd.fst != (-1) then
      Option.bind (ref_Inside_f nf vars ([b.snd.fst])) fun r2 =>
      bif !r2.fst then
        some ((2, ()))
      else
        bif b.snd.fst == (-1) then
          bif b.snd.snd.fst != (-1) then
            Option.bind (ref_Inside_f nf ((↑p.length : Int)) ([b.snd.snd.fst])) fun r3 =>
            bif !r3.fst then
              some ((3, ()))
            else
              bif decide (b.snd.fst ≥ 0) then
                Option.bind (ref_Inside_f nf ((↑p.length : Int)) ([b.snd.snd.fst, b.snd.snd.snd.fst])) fun r4 =>
                bif !r4.fst then
                  some ((3, ()))
                else
                  g2 (IntKind.i64.wrap (t47 + 1))
              else
                g2 (IntKind.i64.wrap (t47 + 1))
          else
            bif decide (b.snd.fst ≥ 0) then
              Option.bind (ref_Inside_f nf ((↑p.length : Int)) ([b.snd.snd.fst, b.snd.snd.snd.fst])) fun r5 =>
              bif !r5.fst then
                some ((3, ()))
              else
                g2 (IntKind.i64.wrap (t47 + 1))
            else
              g2 (IntKind.i64.wrap (t47 + 1))
        else
          bif decide (b.snd.fst ≥ 0) then
            Option.bind (ref_Inside_f nf ((↑p.length : Int)) ([b.snd.snd.fst, b.snd.snd.snd.fst])) fun r6 =>
            bif !r6.fst then
              some ((3, ()))
            else
              g2 (IntKind.i64.wrap (t47 + 1))
          else
            g2 (IntKind.i64.wrap (t47 + 1))
    else
      bif b.snd.fst == (-1) then
        bif b.snd.snd.fst != (-1) then
          Option.bind (ref_Inside_f nf ((↑p.length : Int)) ([b.snd.snd.fst])) fun r7 =>
          bif !r7.fst then
            some ((3, ()))
          else
            bif decide (b.snd.fst ≥ 0) then
              Option.bind (ref_Inside_f nf ((↑p.length : Int)) ([b.snd.snd.fst, b.snd.snd.snd.fst])) fun r8 =>
              bif !r8.fst then
                some ((3, ()))
              else
                g2 (IntKind.i64.wrap (t47 + 1))
            else
              g2 (IntKind.i64.wrap (t47 + 1))
        else
          bif decide (b.snd.fst ≥ 0) then
            Option.bind (ref_Inside_f nf ((↑p.length : Int)) ([b.snd.snd.fst, b.snd.snd.snd.fst])) fun r9 =>
            bif !r9.fst then
              some ((3, ()))
            else
              g2 (IntKind.i64.wrap (t47 + 1))
          else
            g2 (IntKind.i64.wrap (t47 + 1))
      else
        bif decide (b.snd.fst ≥ 0) then
          Option.bind (ref_Inside_f nf ((↑p.length : Int)) ([b.snd.snd.fst, b.snd.snd.snd.fst])) fun r10 =>
          bif !r10.fst then
            some ((3, ()))
          else
            g2 (IntKind.i64.wrap (t47 + 1))
        else
          g2 (IntKind.i64.wrap (t47 + 1))
def ref_ProgCheck_p (nf : Nat) (l0 : Int → TBlfn1 → Int → Int → Option (Int × Unit)) (vars : Int) (p : TBlfn1) : Option (Int × Unit) :=
  l0 vars p 0 0
def ref_ProgCheck_l4 (nf : Nat) (vars : Int) (p : TBlfn1) (t47 : Int) (g2 : Int → Option (Int × Unit)) : Nat → List (Int × Int × Int × Int × Int × Unit) × Int × Int × Int × Unit → Int → Option (Int × Unit)
  | 0, _, _ => none
  | fu + 1, b, t54 => ref_ProgCheck_b4 nf  vars p t47 g2 (ref_ProgCheck_l4 nf vars p t47 g2 fu) b t54
def ref_ProgCheck_l2 (nf : Nat) (vars : Int) (p : TBlfn1) : Nat → Int → Option (Int × Unit)
  | 0, _ => none
  | fu + 1, t47 => ref_ProgCheck_b2 nf (fun _ _ p2 v0 v1 => ref_ProgCheck_l4 nf vars p p2 (fun t47 => ref_ProgCheck_l2 nf vars p  fu t47) nf v0 v1) vars p  (ref_ProgCheck_l2 nf vars p  fu) t47
def ref_ProgCheck_l0 (nf : Nat) (vars : Int) (p : TBlfn1) : Nat → Int → Int → Option (Int × Unit)
  | 0, _, _ => none
  | fu + 1, many, t15 => ref_ProgCheck_b0 nf (fun _ _ v0 => ref_ProgCheck_l2 nf vars p  nf v0) vars p  (ref_ProgCheck_l0 nf vars p  fu) many t15
def ref_ProgCheck_f (nf : Nat) (vars : Int) (p : TBlfn1) : Option (Int × Unit) := ref_ProgCheck_p nf (fun p0 p1 v0 v1 => ref_ProgCheck_l0 nf p0 p1 nf v0 v1) vars p
noncomputable def ref_ProgCheck_L0 (nf : Nat) : LC (Int × Unit) := theL (findL tab (ref_ProgCheck_phi nf) (fun _ F => iter nf F) ref_ProgCheck_keep 0 0 (codeOf Try.f20) (fin tab [(Ty.int IntKind.i64, Md.bor false true)] (resL ([]) Try.f20)) (fun _ _ => none) (fin tab [(Ty.int IntKind.i64, Md.bor false true)] (resL ([]) Try.f20)))
def ref_ProgCheck_m0 (vars : Int) (p : TBlfn1) (many : Int) (t15 : Int) : St := ⟨fresh, [(0, AV.v (Ty.int IntKind.i64) (Md.bor false true) vars), (1, AV.v (tI5fn1.sl.pair ((Ty.int IntKind.i64).pair tI2fn1)).sl (Md.bor true false) p), (5, AV.v (Ty.int IntKind.i64) (Md.bor false true) many), (13, AV.v (tI5fn1.sl.pair ((Ty.int IntKind.i64).pair tI2fn1)).sl (Md.bor true false) p), (14, AV.v (Ty.int IntKind.i64) (Md.bor false true) (↑p.length : Int)), (15, AV.v (Ty.int IntKind.i64) (Md.bor false true) t15)]⟩
noncomputable def ref_ProgCheck_L2 (nf : Nat) : LC (Int × Unit) := theL (findL tab (ref_ProgCheck_phi nf) (fun _ F => iter nf F) ref_ProgCheck_keep 2 0 (codeOf Try.f20) (fin tab [(Ty.int IntKind.i64, Md.bor false true)] (resL ([]) Try.f20)) (fun _ _ => none) (fin tab [(Ty.int IntKind.i64, Md.bor false true)] (resL ([]) Try.f20)))
def ref_ProgCheck_m2 (vars : Int) (p : TBlfn1) (t47 : Int) : St := ⟨fresh, [(0, AV.v (Ty.int IntKind.i64) (Md.bor false true) vars), (1, AV.v (tI5fn1.sl.pair ((Ty.int IntKind.i64).pair tI2fn1)).sl (Md.bor true false) p), (45, AV.v (tI5fn1.sl.pair ((Ty.int IntKind.i64).pair tI2fn1)).sl (Md.bor true false) p), (46, AV.v (Ty.int IntKind.i64) (Md.bor false true) (↑p.length : Int)), (47, AV.v (Ty.int IntKind.i64) (Md.bor false true) t47)]⟩
noncomputable def ref_ProgCheck_L4 (nf : Nat) (G2 : St → Option (Int × Unit)) : LC (Int × Unit) := theL (findL tab (ref_ProgCheck_phi nf) (fun _ F => iter nf F) ref_ProgCheck_keep 4 2 (ref_ProgCheck_L2 nf ).c (fun st => norm (ref_ProgCheck_keep 2) st G2) (ref_ProgCheck_L2 nf ).Kx (ref_ProgCheck_L2 nf ).Kr)
def ref_ProgCheck_m4 (vars : Int) (p : TBlfn1) (t47 : Int) (b : List (Int × Int × Int × Int × Int × Unit) × Int × Int × Int × Unit) (t54 : Int) : St := ⟨fresh, [(0, AV.v (Ty.int IntKind.i64) (Md.bor false true) vars), (1, AV.v (tI5fn1.sl.pair ((Ty.int IntKind.i64).pair tI2fn1)).sl (Md.bor true false) p), (9, AV.box 9 500009 (tI5fn1.sl.pair ((Ty.int IntKind.i64).pair tI2fn1)) (Md.bor true false) b), (45, AV.v (tI5fn1.sl.pair ((Ty.int IntKind.i64).pair tI2fn1)).sl (Md.bor true false) p), (46, AV.v (Ty.int IntKind.i64) (Md.bor false true) (↑p.length : Int)), (47, AV.v (Ty.int IntKind.i64) (Md.bor false true) t47), (51, AV.pl 9 9 [Stp.dr, Stp.fld 0]), (52, AV.v tI5fn1.sl (Md.bor true false) (p.getD t47.toNat ([], 0, 0, 0, ())).fst), (53, AV.v (Ty.int IntKind.i64) (Md.bor false true) (↑(List.length (p.getD t47.toNat ([], 0, 0, 0, ())).fst) : Int)), (54, AV.v (Ty.int IntKind.i64) (Md.bor false true) t54)]⟩
theorem ref_ProgCheck_h4 (nf : Nat) (G2 : St → Option (Int × Unit)) (vars : Int) (p : TBlfn1) (t47 : Int) (fu : Nat) (b : List (Int × Int × Int × Int × Int × Unit) × Int × Int × Int × Unit) (t54 : Int) : iter (fu + 1) (LC.F tab (ref_ProgCheck_phi nf) (fun _ F => iter nf F) ref_ProgCheck_keep 4 (ref_ProgCheck_L4 nf G2)) (ref_ProgCheck_m4 vars p t47 b t54) = ref_ProgCheck_b4 nf  vars p t47 (fun t47 => G2 (ref_ProgCheck_m2 vars p t47)) (fun b t54 => iter fu (LC.F tab (ref_ProgCheck_phi nf) (fun _ F => iter nf F) ref_ProgCheck_keep 4 (ref_ProgCheck_L4 nf G2)) (ref_ProgCheck_m4 vars p t47 b t54)) b t54 := by kernel_rfl
theorem ref_ProgCheck_e4 (nf : Nat) (G2 : St → Option (Int × Unit)) (vars : Int) (p : TBlfn1) (t47 : Int) : ∀ (fu : Nat) (b : List (Int × Int × Int × Int × Int × Unit) × Int × Int × Int × Unit) (t54 : Int), iter fu (LC.F tab (ref_ProgCheck_phi nf) (fun _ F => iter nf F) ref_ProgCheck_keep 4 (ref_ProgCheck_L4 nf G2)) (ref_ProgCheck_m4 vars p t47 b t54) = ref_ProgCheck_l4 nf vars p t47 (fun t47 => G2 (ref_ProgCheck_m2 vars p t47)) fu b t54 := by
  intro fu
  induction fu with
  | zero => intros; rfl
  | succ fu ih =>
    intro b t54
    rw [ref_ProgCheck_h4 nf G2 vars p t47 fu b t54]
    simp only [ih]
    rfl
theorem ref_ProgCheck_h2 (nf : Nat)  (vars : Int) (p : TBlfn1) (fu : Nat) (t47 : Int) : iter (fu + 1) (LC.F tab (ref_ProgCheck_phi nf) (fun _ F => iter nf F) ref_ProgCheck_keep 2 (ref_ProgCheck_L2 nf )) (ref_ProgCheck_m2 vars p t47) = ref_ProgCheck_b2 nf (fun _ _ p2 v0 v1 => iter nf (LC.F tab (ref_ProgCheck_phi nf) (fun _ F => iter nf F) ref_ProgCheck_keep 4 (ref_ProgCheck_L4 nf (iter fu (LC.F tab (ref_ProgCheck_phi nf) (fun _ F => iter nf F) ref_ProgCheck_keep 2 (ref_ProgCheck_L2 nf ))))) (ref_ProgCheck_m4 vars p p2 v0 v1)) vars p  (fun t47 => iter fu (LC.F tab (ref_ProgCheck_phi nf) (fun _ F => iter nf F) ref_ProgCheck_keep 2 (ref_ProgCheck_L2 nf )) (ref_ProgCheck_m2 vars p t47)) t47 := by kernel_rfl
theorem ref_ProgCheck_e2 (nf : Nat)  (vars : Int) (p : TBlfn1) : ∀ (fu : Nat) (t47 : Int), iter fu (LC.F tab (ref_ProgCheck_phi nf) (fun _ F => iter nf F) ref_ProgCheck_keep 2 (ref_ProgCheck_L2 nf )) (ref_ProgCheck_m2 vars p t47) = ref_ProgCheck_l2 nf vars p  fu t47 := by
  intro fu
  induction fu with
  | zero => intros; rfl
  | succ fu ih =>
    intro t47
    rw [ref_ProgCheck_h2 nf  vars p fu t47]
    simp only [ih, ref_ProgCheck_e4]
    rfl
theorem ref_ProgCheck_h0 (nf : Nat)  (vars : Int) (p : TBlfn1) (fu : Nat) (many : Int) (t15 : Int) : iter (fu + 1) (LC.F tab (ref_ProgCheck_phi nf) (fun _ F => iter nf F) ref_ProgCheck_keep 0 (ref_ProgCheck_L0 nf )) (ref_ProgCheck_m0 vars p many t15) = ref_ProgCheck_b0 nf (fun _ _ v0 => iter nf (LC.F tab (ref_ProgCheck_phi nf) (fun _ F => iter nf F) ref_ProgCheck_keep 2 (ref_ProgCheck_L2 nf )) (ref_ProgCheck_m2 vars p v0)) vars p  (fun many t15 => iter fu (LC.F tab (ref_ProgCheck_phi nf) (fun _ F => iter nf F) ref_ProgCheck_keep 0 (ref_ProgCheck_L0 nf )) (ref_ProgCheck_m0 vars p many t15)) many t15 := by kernel_rfl
theorem ref_ProgCheck_e0 (nf : Nat)  (vars : Int) (p : TBlfn1) : ∀ (fu : Nat) (many : Int) (t15 : Int), iter fu (LC.F tab (ref_ProgCheck_phi nf) (fun _ F => iter nf F) ref_ProgCheck_keep 0 (ref_ProgCheck_L0 nf )) (ref_ProgCheck_m0 vars p many t15) = ref_ProgCheck_l0 nf vars p  fu many t15 := by
  intro fu
  induction fu with
  | zero => intros; rfl
  | succ fu ih =>
    intro many t15
    rw [ref_ProgCheck_h0 nf  vars p fu many t15]
    simp only [ih, ref_ProgCheck_e2]
    rfl
theorem ref_ProgCheck_eq (nf : Nat) (vars : Int) (p : TBlfn1) : runF tab (ref_ProgCheck_phi nf) ref_ProgCheck_keep nf [PT.val (Ty.int IntKind.i64) (Md.bor true false), PT.val (tI5fn1.sl.pair ((Ty.int IntKind.i64).pair tI2fn1)).sl (Md.bor true false)] [(Ty.int IntKind.i64, Md.bor false true)] (resL ([]) Try.f20) (codeOf Try.f20) ⟨vars, p, ()⟩ = ref_ProgCheck_f nf vars p := by
  have h : runF tab (ref_ProgCheck_phi nf) ref_ProgCheck_keep nf [PT.val (Ty.int IntKind.i64) (Md.bor true false), PT.val (tI5fn1.sl.pair ((Ty.int IntKind.i64).pair tI2fn1)).sl (Md.bor true false)] [(Ty.int IntKind.i64, Md.bor false true)] (resL ([]) Try.f20) (codeOf Try.f20) ⟨vars, p, ()⟩ = ref_ProgCheck_p nf (fun p0 p1 v0 v1 => iter nf (LC.F tab (ref_ProgCheck_phi nf) (fun _ F => iter nf F) ref_ProgCheck_keep 0 (ref_ProgCheck_L0 nf)) (ref_ProgCheck_m0 p0 p1 v0 v1)) vars p := by kernel_rfl
  rw [h]
  simp only [ref_ProgCheck_e0]
  rfl
def ref_ProgCheck_F (nf : Nat) (x : denPs [.val (.int .i64) (.bor true false), .val (.sl (.pair (.sl tI5fn1) (.pair (.int .i64) (.pair (.int .i64) (.pair (.int .i64) (.unit)))))) (.bor true false)]) : Option (denL [(.int .i64, .bor false true)]) := ref_ProgCheck_f nf x.1 x.2.1
def ref_ProgCheck_C (nf : Nat) : Contract := ⟨[.val (.int .i64) (.bor true false), .val (.sl (.pair (.sl tI5fn1) (.pair (.int .i64) (.pair (.int .i64) (.pair (.int .i64) (.unit)))))) (.bor true false)], [(.int .i64, .bor false true)], ref_ProgCheck_F nf, []⟩
theorem ref_ProgCheck_ok : FnOK Try.prog 20 := ⟨Try.f20, codeOf Try.f20, Try.func20, by kernel_rfl, by kernel_rfl⟩
theorem ref_ProgCheck_holds (nf : Nat) : Contract.Holds Try.prog 20 (ref_ProgCheck_C nf) :=
  fn_holds (Φ := ref_ProgCheck_phi nf) (keep := ref_ProgCheck_keep) (n := nf) ⟨tabs.1, tabs.2, (ctx_cons ref_Inside_ok (ref_Inside_holds nf) (ctx_cons ref_StepCheck_ok (ref_StepCheck_holds nf) ctx_nil)), mixed, bk_ok bkls rfl⟩ (fn := Try.f20) ⟨Try.func20, by kernel_rfl, by kernel_rfl, by kernel_rfl⟩ (fun x => ref_ProgCheck_eq nf x.1 x.2.1)

/-! codemason codemasonref.Fits -/
def ref_Fits_phi (nf : Nat) : Nat → Option Contract := lookC []
def ref_Fits_keep : Nat → List Nat := lookK []
def ref_Fits_p (nf : Nat)  (n' : Int) (s : Int) : Option (Bool × Unit) :=
  bif decide (n' ≥ 32) then
    some ((true, ()))
  else
    bif decide (n' ≥ 0) then
      bif decide (0 ≤ IntKind.u64.wrap n') then
        some ((decide (s < shlI IntKind.u32 1 (IntKind.u64.wrap n')), ()))
      else
        none
    else
      some ((false, ()))
def ref_Fits_f (nf : Nat) (n' : Int) (s : Int) : Option (Bool × Unit) := ref_Fits_p nf  n' s
theorem ref_Fits_eq (nf : Nat) (n' : Int) (s : Int) : runF tab (ref_Fits_phi nf) ref_Fits_keep nf [PT.val (Ty.int IntKind.i64) (Md.bor true false), PT.val (Ty.int IntKind.u32) (Md.bor true false)] [(Ty.bool, Md.bor false true)] (resL ([]) Try.f32) (codeOf Try.f32) ⟨n', s, ()⟩ = ref_Fits_f nf n' s := by
  have h : runF tab (ref_Fits_phi nf) ref_Fits_keep nf [PT.val (Ty.int IntKind.i64) (Md.bor true false), PT.val (Ty.int IntKind.u32) (Md.bor true false)] [(Ty.bool, Md.bor false true)] (resL ([]) Try.f32) (codeOf Try.f32) ⟨n', s, ()⟩ = ref_Fits_p nf  n' s := by kernel_rfl
  exact h
def ref_Fits_F (nf : Nat) (x : denPs [.val (.int .i64) (.bor true false), .val (.int .u32) (.bor true false)]) : Option (denL [(.bool, .bor false true)]) := ref_Fits_f nf x.1 x.2.1
def ref_Fits_C (nf : Nat) : Contract := ⟨[.val (.int .i64) (.bor true false), .val (.int .u32) (.bor true false)], [(.bool, .bor false true)], ref_Fits_F nf, []⟩
theorem ref_Fits_ok : FnOK Try.prog 32 := ⟨Try.f32, codeOf Try.f32, Try.func32, by kernel_rfl, by kernel_rfl⟩
theorem ref_Fits_holds (nf : Nat) : Contract.Holds Try.prog 32 (ref_Fits_C nf) :=
  fn_holds (Φ := ref_Fits_phi nf) (keep := ref_Fits_keep) (n := nf) ⟨tabs.1, tabs.2, ctx_nil, mixed, bk_ok bkls rfl⟩ (fn := Try.f32) ⟨Try.func32, by kernel_rfl, by kernel_rfl, by kernel_rfl⟩ (fun x => ref_Fits_eq nf x.1 x.2.1)

/-! codemason codemasonlaw.wantCode -/
def law_wantCode_phi (nf : Nat) : Nat → Option Contract := lookC [(20, ref_ProgCheck_C nf), (32, ref_Fits_C nf)]
def law_wantCode_keep : Nat → List Nat := lookK []
def law_wantCode_p (nf : Nat)  (vars : Int) (p : TBlfn1) (want : Int) : Option (Int × Unit) :=
  Option.bind (ref_ProgCheck_f nf vars p) fun r =>
  bif r.fst == 0 then
    Option.bind (ref_Fits_f nf vars want) fun r2 =>
    bif !r2.fst then
      some ((4, ()))
    else
      some ((r.fst, ()))
  else
    some ((r.fst, ()))
def law_wantCode_f (nf : Nat) (vars : Int) (p : TBlfn1) (want : Int) : Option (Int × Unit) := law_wantCode_p nf  vars p want
theorem law_wantCode_eq (nf : Nat) (vars : Int) (p : TBlfn1) (want : Int) : runF tab (law_wantCode_phi nf) law_wantCode_keep nf [PT.val (Ty.int IntKind.i64) (Md.bor true false), PT.val (tI5fn1.sl.pair ((Ty.int IntKind.i64).pair tI2fn1)).sl (Md.bor true false), PT.val (Ty.int IntKind.u32) (Md.bor true false)] [(Ty.int IntKind.i64, Md.bor false true)] (resL ([]) Try.f29) (codeOf Try.f29) ⟨vars, p, want, ()⟩ = law_wantCode_f nf vars p want := by
  have h : runF tab (law_wantCode_phi nf) law_wantCode_keep nf [PT.val (Ty.int IntKind.i64) (Md.bor true false), PT.val (tI5fn1.sl.pair ((Ty.int IntKind.i64).pair tI2fn1)).sl (Md.bor true false), PT.val (Ty.int IntKind.u32) (Md.bor true false)] [(Ty.int IntKind.i64, Md.bor false true)] (resL ([]) Try.f29) (codeOf Try.f29) ⟨vars, p, want, ()⟩ = law_wantCode_p nf  vars p want := by kernel_rfl
  exact h
def law_wantCode_F (nf : Nat) (x : denPs [.val (.int .i64) (.bor true false), .val (.sl (.pair (.sl tI5fn1) (.pair (.int .i64) (.pair (.int .i64) (.pair (.int .i64) (.unit)))))) (.bor true false), .val (.int .u32) (.bor true false)]) : Option (denL [(.int .i64, .bor false true)]) := law_wantCode_f nf x.1 x.2.1 x.2.2.1
def law_wantCode_C (nf : Nat) : Contract := ⟨[.val (.int .i64) (.bor true false), .val (.sl (.pair (.sl tI5fn1) (.pair (.int .i64) (.pair (.int .i64) (.pair (.int .i64) (.unit)))))) (.bor true false), .val (.int .u32) (.bor true false)], [(.int .i64, .bor false true)], law_wantCode_F nf, []⟩
theorem law_wantCode_ok : FnOK Try.prog 29 := ⟨Try.f29, codeOf Try.f29, Try.func29, by kernel_rfl, by kernel_rfl⟩
theorem law_wantCode_holds (nf : Nat) : Contract.Holds Try.prog 29 (law_wantCode_C nf) :=
  fn_holds (Φ := law_wantCode_phi nf) (keep := law_wantCode_keep) (n := nf) ⟨tabs.1, tabs.2, (ctx_cons ref_ProgCheck_ok (ref_ProgCheck_holds nf) (ctx_cons ref_Fits_ok (ref_Fits_holds nf) ctx_nil)), mixed, bk_ok bkls rfl⟩ (fn := Try.f29) ⟨Try.func29, by kernel_rfl, by kernel_rfl, by kernel_rfl⟩ (fun x => law_wantCode_eq nf x.1 x.2.1 x.2.2.1)

/-! codemason codemasonref.Bit -/
def ref_Bit_phi (nf : Nat) : Nat → Option Contract := lookC []
def ref_Bit_keep : Nat → List Nat := lookK []
def ref_Bit_p (nf : Nat)  (w : Int) (i : Int) : Option (Bool × Unit) :=
  bif decide (i ≥ 0) then
    bif decide (i < 32) then
      bif decide (0 ≤ IntKind.u64.wrap i) then
        some ((IntKind.u32.wrap (↑(BitVec.ofInt IntKind.u32.bits w &&& BitVec.ofInt IntKind.u32.bits (shlI IntKind.u32 1 (IntKind.u64.wrap i))).toNat : Int) != 0, ()))
      else
        none
    else
      some ((false, ()))
  else
    some ((false, ()))
def ref_Bit_f (nf : Nat) (w : Int) (i : Int) : Option (Bool × Unit) := ref_Bit_p nf  w i
theorem ref_Bit_eq (nf : Nat) (w : Int) (i : Int) : runF tab (ref_Bit_phi nf) ref_Bit_keep nf [PT.val (Ty.int IntKind.u32) (Md.bor true false), PT.val (Ty.int IntKind.i64) (Md.bor true false)] [(Ty.bool, Md.bor false true)] (resL ([]) Try.f30) (codeOf Try.f30) ⟨w, i, ()⟩ = ref_Bit_f nf w i := by
  have h : runF tab (ref_Bit_phi nf) ref_Bit_keep nf [PT.val (Ty.int IntKind.u32) (Md.bor true false), PT.val (Ty.int IntKind.i64) (Md.bor true false)] [(Ty.bool, Md.bor false true)] (resL ([]) Try.f30) (codeOf Try.f30) ⟨w, i, ()⟩ = ref_Bit_p nf  w i := by kernel_rfl
  exact h
def ref_Bit_F (nf : Nat) (x : denPs [.val (.int .u32) (.bor true false), .val (.int .i64) (.bor true false)]) : Option (denL [(.bool, .bor false true)]) := ref_Bit_f nf x.1 x.2.1
def ref_Bit_C (nf : Nat) : Contract := ⟨[.val (.int .u32) (.bor true false), .val (.int .i64) (.bor true false)], [(.bool, .bor false true)], ref_Bit_F nf, []⟩
theorem ref_Bit_ok : FnOK Try.prog 30 := ⟨Try.f30, codeOf Try.f30, Try.func30, by kernel_rfl, by kernel_rfl⟩
theorem ref_Bit_holds (nf : Nat) : Contract.Holds Try.prog 30 (ref_Bit_C nf) :=
  fn_holds (Φ := ref_Bit_phi nf) (keep := ref_Bit_keep) (n := nf) ⟨tabs.1, tabs.2, ctx_nil, mixed, bk_ok bkls rfl⟩ (fn := Try.f30) ⟨Try.func30, by kernel_rfl, by kernel_rfl, by kernel_rfl⟩ (fun x => ref_Bit_eq nf x.1 x.2.1)

/-! codemason codemasonref.Nexts -/
def ref_Nexts_phi (nf : Nat) : Nat → Option Contract := lookC []
def ref_Nexts_keep : Nat → List Nat := lookK [(0, [0, 3, 7, 8, 9])]
def ref_Nexts_b0 (nf : Nat) (p : TBlfn1) (g0 : List (List Int) → Int → Option (List (List Int) × Unit)) (out : List (List Int)) (t9 : Int) : Option (List (List Int) × Unit) :=
  bif decide (t9 < (↑p.length : Int)) then
    bif inb t9 p.length then
      bif (p.getD t9.toNat ([], 0, 0, 0, ())).snd.snd.fst != (-1) then
        bif (p.getD t9.toNat ([], 0, 0, 0, ())).snd.fst != (-1) then
          bif (p.getD t9.toNat ([], 0, 0, 0, ())).snd.snd.fst != (p.getD t9.toNat ([], 0, 0, 0, ())).snd.snd.snd.fst then
            bif !false && leM (Ty.int IntKind.i64).sl 0 (Md.bor false false) (Md.bor false false) && (out.length + [[] ++ [(p.getD t9.toNat ([], 0, 0, 0, ())).snd.snd.fst] ++ [(p.getD t9.toNat ([], 0, 0, 0, ())).snd.snd.snd.fst]].length).ble lim then
              g0 (out ++ [[] ++ [(p.getD t9.toNat ([], 0, 0, 0, ())).snd.snd.fst] ++ [(p.getD t9.toNat ([], 0, 0, 0, ())).snd.snd.snd.fst]]) (IntKind.i64.wrap (t9 + 1))
            else
              none
          else
            bif !false && leM (Ty.int IntKind.i64).sl 0 (Md.bor false false) (Md.bor false false) && (out.length + [[] ++ [(p.getD t9.toNat ([], 0, 0, 0, ())).snd.snd.fst]].length).ble lim then
              g0 (out ++ [[] ++ [(p.getD t9.toNat ([], 0, 0, 0, ())).snd.snd.fst]]) (IntKind.i64.wrap (t9 + 1))
            else
              none
        else
          bif !false && leM (Ty.int IntKind.i64).sl 0 (Md.bor false false) (Md.bor false false) && (out.length + [[] ++ [(p.getD t9.toNat ([], 0, 0, 0, ())).snd.snd.fst]].length).ble lim then
            g0 (out ++ [[] ++ [(p.getD t9.toNat ([], 0, 0, 0, ())).snd.snd.fst]]) (IntKind.i64.wrap (t9 + 1))
          else
            none
      else
        bif (p.getD t9.toNat ([], 0, 0, 0, ())).snd.fst != (-1) then
          bif (p.getD t9.toNat ([], 0, 0, 0, ())).snd.snd.fst != (p.getD t9.toNat ([], 0, 0, 0, ())).snd.snd.snd.fst then
            bif !false && leM (Ty.int IntKind.i64).sl 0 (Md.bor false false) (Md.bor false false) && (out.length + [[] ++ [(p.getD t9.toNat ([], 0, 0, 0, ())).snd.snd.snd.fst]].length).ble lim then
              g0 (out ++ [[] ++ [(p.getD t9.toNat ([], 0, 0, 0, ())).snd.snd.snd.fst]]) (IntKind.i64.wrap (t9 + 1))
            else
              none
          else
            bif !false && leM (Ty.int IntKind.i64).sl 0 (Md.bor false false) (Md.bor false false) && (out.length + [([] : List Unit)].length).ble lim then
              g0 (out ++ [[]]) (IntKind.i64.wrap (t9 + 1))
            else
              none
        else
          bif !false && leM (Ty.int IntKind.i64).sl 0 (Md.bor false false) (Md.bor false false) && (out.length + [([] : List Unit)].length).ble lim then
            g0 (out ++ [[]]) (IntKind.i64.wrap (t9 + 1))
          else
            none
    else
      none
  else
    some ((out, ()))
def ref_Nexts_p (nf : Nat) (l0 : TBlfn1 → List (List Int) → Int → Option (List (List Int) × Unit)) (p : TBlfn1) : Option (List (List Int) × Unit) :=
  l0 p [] 0
def ref_Nexts_l0 (nf : Nat) (p : TBlfn1) : Nat → List (List Int) → Int → Option (List (List Int) × Unit)
  | 0, _, _ => none
  | fu + 1, out, t9 => ref_Nexts_b0 nf  p  (ref_Nexts_l0 nf p  fu) out t9
def ref_Nexts_f (nf : Nat) (p : TBlfn1) : Option (List (List Int) × Unit) := ref_Nexts_p nf (fun p0 v0 v1 => ref_Nexts_l0 nf p0 nf v0 v1) p
noncomputable def ref_Nexts_L0 (nf : Nat) : LC (List (List Int) × Unit) := theL (findL tab (ref_Nexts_phi nf) (fun _ F => iter nf F) ref_Nexts_keep 0 0 (codeOf Try.f23) (fin tab [((Ty.int IntKind.i64).sl.sl, Md.own false (Md.bor false false))] (resL ([]) Try.f23)) (fun _ _ => none) (fin tab [((Ty.int IntKind.i64).sl.sl, Md.own false (Md.bor false false))] (resL ([]) Try.f23)))
def ref_Nexts_m0 (p : TBlfn1) (out : List (List Int)) (t9 : Int) : St := ⟨fresh, [(0, AV.v (tI5fn1.sl.pair ((Ty.int IntKind.i64).pair tI2fn1)).sl (Md.bor true false) p), (3, AV.ow 500003 (Ty.int IntKind.i64).sl.sl (Md.own false (Md.bor false false)) out), (7, AV.v (tI5fn1.sl.pair ((Ty.int IntKind.i64).pair tI2fn1)).sl (Md.bor true false) p), (8, AV.v (Ty.int IntKind.i64) (Md.bor false true) (↑p.length : Int)), (9, AV.v (Ty.int IntKind.i64) (Md.bor false true) t9)]⟩
theorem ref_Nexts_h0 (nf : Nat)  (p : TBlfn1) (fu : Nat) (out : List (List Int)) (t9 : Int) : iter (fu + 1) (LC.F tab (ref_Nexts_phi nf) (fun _ F => iter nf F) ref_Nexts_keep 0 (ref_Nexts_L0 nf )) (ref_Nexts_m0 p out t9) = ref_Nexts_b0 nf  p  (fun out t9 => iter fu (LC.F tab (ref_Nexts_phi nf) (fun _ F => iter nf F) ref_Nexts_keep 0 (ref_Nexts_L0 nf )) (ref_Nexts_m0 p out t9)) out t9 := by kernel_rfl
theorem ref_Nexts_e0 (nf : Nat)  (p : TBlfn1) : ∀ (fu : Nat) (out : List (List Int)) (t9 : Int), iter fu (LC.F tab (ref_Nexts_phi nf) (fun _ F => iter nf F) ref_Nexts_keep 0 (ref_Nexts_L0 nf )) (ref_Nexts_m0 p out t9) = ref_Nexts_l0 nf p  fu out t9 := by
  intro fu
  induction fu with
  | zero => intros; rfl
  | succ fu ih =>
    intro out t9
    rw [ref_Nexts_h0 nf  p fu out t9]
    simp only [ih]
    rfl
theorem ref_Nexts_eq (nf : Nat) (p : TBlfn1) : runF tab (ref_Nexts_phi nf) ref_Nexts_keep nf [PT.val (tI5fn1.sl.pair ((Ty.int IntKind.i64).pair tI2fn1)).sl (Md.bor true false)] [((Ty.int IntKind.i64).sl.sl, Md.own false (Md.bor false false))] (resL ([]) Try.f23) (codeOf Try.f23) ⟨p, ()⟩ = ref_Nexts_f nf p := by
  have h : runF tab (ref_Nexts_phi nf) ref_Nexts_keep nf [PT.val (tI5fn1.sl.pair ((Ty.int IntKind.i64).pair tI2fn1)).sl (Md.bor true false)] [((Ty.int IntKind.i64).sl.sl, Md.own false (Md.bor false false))] (resL ([]) Try.f23) (codeOf Try.f23) ⟨p, ()⟩ = ref_Nexts_p nf (fun p0 v0 v1 => iter nf (LC.F tab (ref_Nexts_phi nf) (fun _ F => iter nf F) ref_Nexts_keep 0 (ref_Nexts_L0 nf)) (ref_Nexts_m0 p0 v0 v1)) p := by kernel_rfl
  rw [h]
  simp only [ref_Nexts_e0]
  rfl
def ref_Nexts_F (nf : Nat) (x : denPs [.val (.sl (.pair (.sl tI5fn1) (.pair (.int .i64) (.pair (.int .i64) (.pair (.int .i64) (.unit)))))) (.bor true false)]) : Option (denL [(.sl (.sl (.int .i64)), .own false (.bor false false))]) := ref_Nexts_f nf x.1
def ref_Nexts_C (nf : Nat) : Contract := ⟨[.val (.sl (.pair (.sl tI5fn1) (.pair (.int .i64) (.pair (.int .i64) (.pair (.int .i64) (.unit)))))) (.bor true false)], [(.sl (.sl (.int .i64)), .own false (.bor false false))], ref_Nexts_F nf, []⟩
theorem ref_Nexts_ok : FnOK Try.prog 23 := ⟨Try.f23, codeOf Try.f23, Try.func23, by kernel_rfl, by kernel_rfl⟩
theorem ref_Nexts_holds (nf : Nat) : Contract.Holds Try.prog 23 (ref_Nexts_C nf) :=
  fn_holds (Φ := ref_Nexts_phi nf) (keep := ref_Nexts_keep) (n := nf) ⟨tabs.1, tabs.2, ctx_nil, mixed, bk_ok bkls rfl⟩ (fn := Try.f23) ⟨Try.func23, by kernel_rfl, by kernel_rfl, by kernel_rfl⟩ (fun x => ref_Nexts_eq nf x.1)

/-! codemason codemasonref.Reads -/
def ref_Reads_phi (nf : Nat) : Nat → Option Contract := lookC []
def ref_Reads_keep : Nat → List Nat := lookK []
def ref_Reads_p (nf : Nat)  (s : Int × Int × Int × Int × Int × Unit) : Option (Int × Unit) :=
  bif s.fst == 1 then
    some ((0, ()))
  else
    bif s.fst == 2 then
      bif decide (0 ≤ IntKind.u64.wrap s.snd.snd.snd.snd.fst) then
        some ((shlI IntKind.u32 1 (IntKind.u64.wrap s.snd.snd.snd.snd.fst), ()))
      else
        none
    else
      bif decide (0 ≤ IntKind.u64.wrap s.snd.snd.fst) then
        bif decide (0 ≤ IntKind.u64.wrap s.snd.snd.snd.fst) then
          some ((IntKind.u32.wrap (↑(BitVec.ofInt IntKind.u32.bits (shlI IntKind.u32 1 (IntKind.u64.wrap s.snd.snd.fst)) ||| BitVec.ofInt IntKind.u32.bits (shlI IntKind.u32 1 (IntKind.u64.wrap s.snd.snd.snd.fst))).toNat : Int), ()))
        else
          none
      else
        none
def ref_Reads_f (nf : Nat) (s : Int × Int × Int × Int × Int × Unit) : Option (Int × Unit) := ref_Reads_p nf  s
theorem ref_Reads_eq (nf : Nat) (s : Int × Int × Int × Int × Int × Unit) : runF tab (ref_Reads_phi nf) ref_Reads_keep nf [PT.val tI5fn1 (Md.bor true false)] [(Ty.int IntKind.u32, Md.bor false true)] (resL ([]) Try.f73) (codeOf Try.f73) ⟨s, ()⟩ = ref_Reads_f nf s := by
  have h : runF tab (ref_Reads_phi nf) ref_Reads_keep nf [PT.val tI5fn1 (Md.bor true false)] [(Ty.int IntKind.u32, Md.bor false true)] (resL ([]) Try.f73) (codeOf Try.f73) ⟨s, ()⟩ = ref_Reads_p nf  s := by kernel_rfl
  exact h
def ref_Reads_F (nf : Nat) (x : denPs [.val tI5fn1 (.bor true false)]) : Option (denL [(.int .u32, .bor false true)]) := ref_Reads_f nf x.1
def ref_Reads_C (nf : Nat) : Contract := ⟨[.val tI5fn1 (.bor true false)], [(.int .u32, .bor false true)], ref_Reads_F nf, []⟩
theorem ref_Reads_ok : FnOK Try.prog 73 := ⟨Try.f73, codeOf Try.f73, Try.func73, by kernel_rfl, by kernel_rfl⟩
theorem ref_Reads_holds (nf : Nat) : Contract.Holds Try.prog 73 (ref_Reads_C nf) :=
  fn_holds (Φ := ref_Reads_phi nf) (keep := ref_Reads_keep) (n := nf) ⟨tabs.1, tabs.2, ctx_nil, mixed, bk_ok bkls rfl⟩ (fn := Try.f73) ⟨Try.func73, by kernel_rfl, by kernel_rfl, by kernel_rfl⟩ (fun x => ref_Reads_eq nf x.1)

/-! codemason codemasonref.comes -/
def ref_comes_phi (nf : Nat) : Nat → Option Contract := lookC []
def ref_comes_keep : Nat → List Nat := lookK [(0, [0, 1, 3, 7, 8, 9])]
def ref_comes_b0 (nf : Nat) (x : Int × Int × Unit) (l' : List (Int × Int × Unit)) (g0 : List (Int × Int × Unit) → Int × Int × Unit → Int → Option (List (Int × Int × Unit) × Unit)) (l'2 : List (Int × Int × Unit)) (x2 : Int × Int × Unit) (t9 : Int) : Option (List (Int × Int × Unit) × Unit) :=
  bif decide (t9 < (↑l'.length : Int)) then
    bif inb t9 l'2.length then
      bif x2.fst == (l'2.getD t9.toNat (0, 0, ())).fst && (x2.snd.fst == (l'2.getD t9.toNat (0, 0, ())).snd.fst && true) then
        some ((l'2, ()))
      else
        g0 l'2 x2 (IntKind.i64.wrap (t9 + 1))
    else
      none
  else
    bif bimp false ![x2].isEmpty && (l'2.length + [x2].length).ble lim then
      some ((l'2 ++ [x2], ()))
    else
      none
def ref_comes_p (nf : Nat) (l0 : Int × Int × Unit → List (Int × Int × Unit) → List (Int × Int × Unit) → Int × Int × Unit → Int → Option (List (Int × Int × Unit) × Unit)) (l' : List (Int × Int × Unit)) (x : Int × Int × Unit) : Option (List (Int × Int × Unit) × Unit) :=
  l0 x l' l' x 0
def ref_comes_l0 (nf : Nat) (x : Int × Int × Unit) (l' : List (Int × Int × Unit)) : Nat → List (Int × Int × Unit) → Int × Int × Unit → Int → Option (List (Int × Int × Unit) × Unit)
  | 0, _, _, _ => none
  | fu + 1, l'2, x2, t9 => ref_comes_b0 nf  x l'  (ref_comes_l0 nf x l'  fu) l'2 x2 t9
def ref_comes_f (nf : Nat) (l' : List (Int × Int × Unit)) (x : Int × Int × Unit) : Option (List (Int × Int × Unit) × Unit) := ref_comes_p nf (fun p0 p1 v0 v1 v2 => ref_comes_l0 nf p0 p1 nf v0 v1 v2) l' x
noncomputable def ref_comes_L0 (nf : Nat) : LC (List (Int × Int × Unit) × Unit) := theL (findL tab (ref_comes_phi nf) (fun _ F => iter nf F) ref_comes_keep 0 0 (codeOf Try.f74) (fin tab [(tI2fn1.sl, Md.own false (Md.bor false false))] (resL ([]) Try.f74)) (fun _ _ => none) (fin tab [(tI2fn1.sl, Md.own false (Md.bor false false))] (resL ([]) Try.f74)))
def ref_comes_m0 (x : Int × Int × Unit) (l' : List (Int × Int × Unit)) (l'2 : List (Int × Int × Unit)) (x2 : Int × Int × Unit) (t9 : Int) : St := ⟨fresh, [(0, AV.ow 500000 tI2fn1.sl (Md.own false (Md.bor false false)) l'2), (1, AV.v tI2fn1 (Md.bor true false) x), (3, AV.box 3 500003 tI2fn1 (Md.bor true false) x2), (7, AV.al 0 500000 []), (8, AV.v (Ty.int IntKind.i64) (Md.bor false true) (↑l'.length : Int)), (9, AV.v (Ty.int IntKind.i64) (Md.bor false true) t9)]⟩
theorem ref_comes_h0 (nf : Nat)  (x : Int × Int × Unit) (l' : List (Int × Int × Unit)) (fu : Nat) (l'2 : List (Int × Int × Unit)) (x2 : Int × Int × Unit) (t9 : Int) : iter (fu + 1) (LC.F tab (ref_comes_phi nf) (fun _ F => iter nf F) ref_comes_keep 0 (ref_comes_L0 nf )) (ref_comes_m0 x l' l'2 x2 t9) = ref_comes_b0 nf  x l'  (fun l'2 x2 t9 => iter fu (LC.F tab (ref_comes_phi nf) (fun _ F => iter nf F) ref_comes_keep 0 (ref_comes_L0 nf )) (ref_comes_m0 x l' l'2 x2 t9)) l'2 x2 t9 := by kernel_rfl
theorem ref_comes_e0 (nf : Nat)  (x : Int × Int × Unit) (l' : List (Int × Int × Unit)) : ∀ (fu : Nat) (l'2 : List (Int × Int × Unit)) (x2 : Int × Int × Unit) (t9 : Int), iter fu (LC.F tab (ref_comes_phi nf) (fun _ F => iter nf F) ref_comes_keep 0 (ref_comes_L0 nf )) (ref_comes_m0 x l' l'2 x2 t9) = ref_comes_l0 nf x l'  fu l'2 x2 t9 := by
  intro fu
  induction fu with
  | zero => intros; rfl
  | succ fu ih =>
    intro l'2 x2 t9
    rw [ref_comes_h0 nf  x l' fu l'2 x2 t9]
    simp only [ih]
    rfl
theorem ref_comes_eq (nf : Nat) (l' : List (Int × Int × Unit)) (x : Int × Int × Unit) : runF tab (ref_comes_phi nf) ref_comes_keep nf [PT.val tI2fn1.sl (Md.own false (Md.bor false false)), PT.val tI2fn1 (Md.bor true false)] [(tI2fn1.sl, Md.own false (Md.bor false false))] (resL ([]) Try.f74) (codeOf Try.f74) ⟨l', x, ()⟩ = ref_comes_f nf l' x := by
  have h : runF tab (ref_comes_phi nf) ref_comes_keep nf [PT.val tI2fn1.sl (Md.own false (Md.bor false false)), PT.val tI2fn1 (Md.bor true false)] [(tI2fn1.sl, Md.own false (Md.bor false false))] (resL ([]) Try.f74) (codeOf Try.f74) ⟨l', x, ()⟩ = ref_comes_p nf (fun p0 p1 v0 v1 v2 => iter nf (LC.F tab (ref_comes_phi nf) (fun _ F => iter nf F) ref_comes_keep 0 (ref_comes_L0 nf)) (ref_comes_m0 p0 p1 v0 v1 v2)) l' x := by kernel_rfl
  rw [h]
  simp only [ref_comes_e0]
  rfl
def ref_comes_F (nf : Nat) (x : denPs [.val (.sl (.pair (.int .i64) (.pair (.int .i64) (.unit)))) (.own false (.bor false false)), .val (.pair (.int .i64) (.pair (.int .i64) (.unit))) (.bor true false)]) : Option (denL [(.sl (.pair (.int .i64) (.pair (.int .i64) (.unit))), .own false (.bor false false))]) := ref_comes_f nf x.1 x.2.1
def ref_comes_C (nf : Nat) : Contract := ⟨[.val (.sl (.pair (.int .i64) (.pair (.int .i64) (.unit)))) (.own false (.bor false false)), .val (.pair (.int .i64) (.pair (.int .i64) (.unit))) (.bor true false)], [(.sl (.pair (.int .i64) (.pair (.int .i64) (.unit))), .own false (.bor false false))], ref_comes_F nf, []⟩
theorem ref_comes_ok : FnOK Try.prog 74 := ⟨Try.f74, codeOf Try.f74, Try.func74, by kernel_rfl, by kernel_rfl⟩
theorem ref_comes_holds (nf : Nat) : Contract.Holds Try.prog 74 (ref_comes_C nf) :=
  fn_holds (Φ := ref_comes_phi nf) (keep := ref_comes_keep) (n := nf) ⟨tabs.1, tabs.2, ctx_nil, mixed, bk_ok bkls rfl⟩ (fn := Try.f74) ⟨Try.func74, by kernel_rfl, by kernel_rfl, by kernel_rfl⟩ (fun x => ref_comes_eq nf x.1 x.2.1)

/-! codemason codemasonref.Live -/
def ref_Live_phi (nf : Nat) : Nat → Option Contract := lookC [(23, ref_Nexts_C nf), (30, ref_Bit_C nf), (73, ref_Reads_C nf), (74, ref_comes_C nf)]
def ref_Live_keep : Nat → List Nat := lookK [(2, [0, 1, 2, 9, 10, 17, 60, 81, 84, 85, 86, 87]), (0, [0, 1, 2, 9, 10, 17, 60])]
def ref_Live_b0 (nf : Nat) (l2 : TBlfn1 → Int → Int → Int → List (Int × Int × Unit) → List (Int × Int × Unit) → List (List Int) → List Int → Int → Int → Option (Bool × Unit)) (p : TBlfn1) (want : Int) (v : Int) (g0 : List (Int × Int × Unit) → Int → Option (Bool × Unit)) (here : List (Int × Int × Unit)) (k' : Int) : Option (Bool × Unit) :=
  bif decide (k' < (↑here.length : Int)) then
    bif inb k' here.length then
      bif inb (here.getD k'.toNat (0, 0, ())).fst p.length then
        bif decide ((here.getD k'.toNat (0, 0, ())).snd.fst < (↑(List.length (p.getD (Int.toNat (here.getD k'.toNat (0, 0, ())).fst) ([], 0, 0, 0, ())).fst) : Int)) then
          bif inb (here.getD k'.toNat (0, 0, ())).snd.fst (List.length (p.getD (Int.toNat (here.getD k'.toNat (0, 0, ())).fst) ([], 0, 0, 0, ())).fst) then
            Option.bind (ref_Reads_f nf (List.getD (p.getD (Int.toNat (here.getD k'.toNat (0, 0, ())).fst) ([], 0, 0, 0, ())).fst (Int.toNat (here.getD k'.toNat (0, 0, ())).snd.fst) (0, 0, 0, 0, 0, ()))) fun r =>
            Option.bind (ref_Bit_f nf r.fst v) fun r2 =>
            bif r2.fst then
              some ((true, ()))
            else
              bif (List.getD (p.getD (Int.toNat (here.getD k'.toNat (0, 0, ())).fst) ([], 0, 0, 0, ())).fst (Int.toNat (here.getD k'.toNat (0, 0, ())).snd.fst) (0, 0, 0, 0, 0, ())).snd.fst != v then
                Option.bind (ref_comes_f nf here (((here.getD k'.toNat (0, 0, ())).fst, IntKind.i64.wrap ((here.getD k'.toNat (0, 0, ())).snd.fst + 1), ()))) fun r3 =>
                g0 r3.fst (IntKind.i64.wrap (k' + 1))
              else
                g0 here (IntKind.i64.wrap (k' + 1))
          else
            none
        else
          bif (p.getD (Int.toNat (here.getD k'.toNat (0, 0, ())).fst) ([], 0, 0, 0, ())).snd.fst == v then
            some ((true, ()))
          else
            bif (p.getD (Int.toNat (here.getD k'.toNat (0, 0, ())).fst) ([], 0, 0, 0, ())).snd.fst == (-1) then
              bif (p.getD (Int.toNat (here.getD k'.toNat (0, 0, ())).fst) ([], 0, 0, 0, ())).snd.snd.fst == (-1) then
                Option.bind (ref_Bit_f nf want v) fun r4 =>
                bif r4.fst then
                  some ((true, ()))
                else
                  Option.bind (ref_Nexts_f nf p) fun r5 =>
                  bif inb (here.getD k'.toNat (0, 0, ())).fst (List.length r5.fst) then
                    l2 p want v k' here here r5.fst (List.getD r5.fst (Int.toNat (here.getD k'.toNat (0, 0, ())).fst) []) ((↑(List.length (List.getD r5.fst (Int.toNat (here.getD k'.toNat (0, 0, ())).fst) [])) : Int)) 0
                  else
                    none
              else
                Option.bind (ref_Nexts_f nf p) fun r7 =>
                bif inb (here.getD k'.toNat (0, 0, ())).fst (List.length r7.fst) then
                  l2 p want v k' here here r7.fst (List.getD r7.fst (Int.toNat (here.getD k'.toNat (0, 0, ())).fst) []) ((↑(List.length (List.getD r7.fst (Int.toNat (here.getD k'.toNat (0, 0, ())).fst) [])) : Int)) 0
                else
                  none
            else
              Option.bind (ref_Nexts_f nf p) fun r8 =>
              bif inb (here.getD k'.toNat (0, 0, ())).fst (List.length r8.fst) then
                l2 p want v k' here here r8.fst (List.getD r8.fst (Int.toNat (here.getD k'.toNat (0, 0, ())).fst) []) ((↑(List.length (List.getD r8.fst (Int.toNat (here.getD k'.toNat (0, 0, ())).fst) [])) : Int)) 0
              else
                none
      else
        none
    else
      none
  else
    some ((false, ()))
def ref_Live_b2 (nf : Nat) (p : TBlfn1) (want : Int) (v : Int) (k' : Int) (here : List (Int × Int × Unit)) (g0 : List (Int × Int × Unit) → Int → Option (Bool × Unit)) (g2 : List (Int × Int × Unit) → List (List Int) → List Int → Int → Int → Option (Bool × Unit)) (here2 : List (Int × Int × Unit)) (t81 : List (List Int)) (t85 : List Int) (t86 : Int) (t87 : Int) : Option (Bool × Unit) :=
  bif decide (t87 < t86) then
    bif inb t87 t85.length then
      Option.bind (ref_comes_f nf here2 ((t85.getD t87.toNat 0, 0, ()))) fun r6 =>
      g2 r6.fst t81 t85 t86 (IntKind.i64.wrap (t87 + 1))
    else
      none
  else
    g0 here2 (IntKind.i64.wrap (k' + 1))
def ref_Live_p (nf : Nat) (l0 : TBlfn1 → Int → Int → List (Int × Int × Unit) → Int → Option (Bool × Unit)) (p : TBlfn1) (want : Int) (v : Int) (at' : Int × Int × Unit) : Option (Bool × Unit) :=
  l0 p want v [at'] 0
def ref_Live_l2 (nf : Nat) (p : TBlfn1) (want : Int) (v : Int) (k' : Int) (here : List (Int × Int × Unit)) (g0 : List (Int × Int × Unit) → Int → Option (Bool × Unit)) : Nat → List (Int × Int × Unit) → List (List Int) → List Int → Int → Int → Option (Bool × Unit)
  | 0, _, _, _, _, _ => none
  | fu + 1, here2, t81, t85, t86, t87 => ref_Live_b2 nf  p want v k' here g0 (ref_Live_l2 nf p want v k' here g0 fu) here2 t81 t85 t86 t87
def ref_Live_l0 (nf : Nat) (p : TBlfn1) (want : Int) (v : Int) : Nat → List (Int × Int × Unit) → Int → Option (Bool × Unit)
  | 0, _, _ => none
  | fu + 1, here, k' => ref_Live_b0 nf (fun _ _ _ p3 p4 v0 v1 v2 v3 v4 => ref_Live_l2 nf p want v p3 p4 (fun here k' => ref_Live_l0 nf p want v  fu here k') nf v0 v1 v2 v3 v4) p want v  (ref_Live_l0 nf p want v  fu) here k'
def ref_Live_f (nf : Nat) (p : TBlfn1) (want : Int) (v : Int) (at' : Int × Int × Unit) : Option (Bool × Unit) := ref_Live_p nf (fun p0 p1 p2 v0 v1 => ref_Live_l0 nf p0 p1 p2 nf v0 v1) p want v at'
noncomputable def ref_Live_L0 (nf : Nat) : LC (Bool × Unit) := theL (findL tab (ref_Live_phi nf) (fun _ F => iter nf F) ref_Live_keep 0 0 (codeOf Try.f31) (fin tab [(Ty.bool, Md.bor false true)] (resL ([]) Try.f31)) (fun _ _ => none) (fin tab [(Ty.bool, Md.bor false true)] (resL ([]) Try.f31)))
def ref_Live_m0 (p : TBlfn1) (want : Int) (v : Int) (here : List (Int × Int × Unit)) (k' : Int) : St := ⟨fresh, [(0, AV.v (tI5fn1.sl.pair ((Ty.int IntKind.i64).pair tI2fn1)).sl (Md.bor true false) p), (1, AV.v (Ty.int IntKind.u32) (Md.bor false true) want), (2, AV.v (Ty.int IntKind.i64) (Md.bor false true) v), (9, AV.ow 500009 tI2fn1.sl (Md.own false (Md.bor false false)) here), (10, AV.v (Ty.int IntKind.i64) (Md.bor false true) k'), (17, AV.dead), (60, AV.dead)]⟩
noncomputable def ref_Live_L2 (nf : Nat) (G0 : St → Option (Bool × Unit)) : LC (Bool × Unit) := theL (findL tab (ref_Live_phi nf) (fun _ F => iter nf F) ref_Live_keep 2 0 (ref_Live_L0 nf ).c (fun st => norm (ref_Live_keep 0) st G0) (ref_Live_L0 nf ).Kx (ref_Live_L0 nf ).Kr)
def ref_Live_m2 (p : TBlfn1) (want : Int) (v : Int) (k' : Int) (here : List (Int × Int × Unit)) (here2 : List (Int × Int × Unit)) (t81 : List (List Int)) (t85 : List Int) (t86 : Int) (t87 : Int) : St := ⟨fresh, [(0, AV.v (tI5fn1.sl.pair ((Ty.int IntKind.i64).pair tI2fn1)).sl (Md.bor true false) p), (1, AV.v (Ty.int IntKind.u32) (Md.bor false true) want), (2, AV.v (Ty.int IntKind.i64) (Md.bor false true) v), (9, AV.ow 500009 tI2fn1.sl (Md.own false (Md.bor false false)) here2), (10, AV.v (Ty.int IntKind.i64) (Md.bor false true) k'), (17, AV.dead), (60, AV.dead), (81, AV.ow 500081 (Ty.int IntKind.i64).sl.sl (Md.own false (Md.bor false false)) t81), (84, AV.pl 81 500081 [Stp.el (Int.toNat (here.getD k'.toNat (0, 0, ())).fst)]), (85, AV.v (Ty.int IntKind.i64).sl (Md.bor false false) t85), (86, AV.v (Ty.int IntKind.i64) (Md.bor false true) t86), (87, AV.v (Ty.int IntKind.i64) (Md.bor false true) t87)]⟩
theorem ref_Live_h2 (nf : Nat) (G0 : St → Option (Bool × Unit)) (p : TBlfn1) (want : Int) (v : Int) (k' : Int) (here : List (Int × Int × Unit)) (fu : Nat) (here2 : List (Int × Int × Unit)) (t81 : List (List Int)) (t85 : List Int) (t86 : Int) (t87 : Int) : iter (fu + 1) (LC.F tab (ref_Live_phi nf) (fun _ F => iter nf F) ref_Live_keep 2 (ref_Live_L2 nf G0)) (ref_Live_m2 p want v k' here here2 t81 t85 t86 t87) = ref_Live_b2 nf  p want v k' here (fun here k' => G0 (ref_Live_m0 p want v here k')) (fun here2 t81 t85 t86 t87 => iter fu (LC.F tab (ref_Live_phi nf) (fun _ F => iter nf F) ref_Live_keep 2 (ref_Live_L2 nf G0)) (ref_Live_m2 p want v k' here here2 t81 t85 t86 t87)) here2 t81 t85 t86 t87 := by kernel_rfl
theorem ref_Live_e2 (nf : Nat) (G0 : St → Option (Bool × Unit)) (p : TBlfn1) (want : Int) (v : Int) (k' : Int) (here : List (Int × Int × Unit)) : ∀ (fu : Nat) (here2 : List (Int × Int × Unit)) (t81 : List (List Int)) (t85 : List Int) (t86 : Int) (t87 : Int), iter fu (LC.F tab (ref_Live_phi nf) (fun _ F => iter nf F) ref_Live_keep 2 (ref_Live_L2 nf G0)) (ref_Live_m2 p want v k' here here2 t81 t85 t86 t87) = ref_Live_l2 nf p want v k' here (fun here k' => G0 (ref_Live_m0 p want v here k')) fu here2 t81 t85 t86 t87 := by
  intro fu
  induction fu with
  | zero => intros; rfl
  | succ fu ih =>
    intro here2 t81 t85 t86 t87
    rw [ref_Live_h2 nf G0 p want v k' here fu here2 t81 t85 t86 t87]
    simp only [ih]
    rfl
theorem ref_Live_h0 (nf : Nat)  (p : TBlfn1) (want : Int) (v : Int) (fu : Nat) (here : List (Int × Int × Unit)) (k' : Int) : iter (fu + 1) (LC.F tab (ref_Live_phi nf) (fun _ F => iter nf F) ref_Live_keep 0 (ref_Live_L0 nf )) (ref_Live_m0 p want v here k') = ref_Live_b0 nf (fun _ _ _ p3 p4 v0 v1 v2 v3 v4 => iter nf (LC.F tab (ref_Live_phi nf) (fun _ F => iter nf F) ref_Live_keep 2 (ref_Live_L2 nf (iter fu (LC.F tab (ref_Live_phi nf) (fun _ F => iter nf F) ref_Live_keep 0 (ref_Live_L0 nf ))))) (ref_Live_m2 p want v p3 p4 v0 v1 v2 v3 v4)) p want v  (fun here k' => iter fu (LC.F tab (ref_Live_phi nf) (fun _ F => iter nf F) ref_Live_keep 0 (ref_Live_L0 nf )) (ref_Live_m0 p want v here k')) here k' := by kernel_rfl
theorem ref_Live_e0 (nf : Nat)  (p : TBlfn1) (want : Int) (v : Int) : ∀ (fu : Nat) (here : List (Int × Int × Unit)) (k' : Int), iter fu (LC.F tab (ref_Live_phi nf) (fun _ F => iter nf F) ref_Live_keep 0 (ref_Live_L0 nf )) (ref_Live_m0 p want v here k') = ref_Live_l0 nf p want v  fu here k' := by
  intro fu
  induction fu with
  | zero => intros; rfl
  | succ fu ih =>
    intro here k'
    rw [ref_Live_h0 nf  p want v fu here k']
    simp only [ih, ref_Live_e2]
    rfl
theorem ref_Live_eq (nf : Nat) (p : TBlfn1) (want : Int) (v : Int) (at' : Int × Int × Unit) : runF tab (ref_Live_phi nf) ref_Live_keep nf [PT.val (tI5fn1.sl.pair ((Ty.int IntKind.i64).pair tI2fn1)).sl (Md.bor true false), PT.val (Ty.int IntKind.u32) (Md.bor true false), PT.val (Ty.int IntKind.i64) (Md.bor true false), PT.val tI2fn1 (Md.bor true false)] [(Ty.bool, Md.bor false true)] (resL ([]) Try.f31) (codeOf Try.f31) ⟨p, want, v, at', ()⟩ = ref_Live_f nf p want v at' := by
  have h : runF tab (ref_Live_phi nf) ref_Live_keep nf [PT.val (tI5fn1.sl.pair ((Ty.int IntKind.i64).pair tI2fn1)).sl (Md.bor true false), PT.val (Ty.int IntKind.u32) (Md.bor true false), PT.val (Ty.int IntKind.i64) (Md.bor true false), PT.val tI2fn1 (Md.bor true false)] [(Ty.bool, Md.bor false true)] (resL ([]) Try.f31) (codeOf Try.f31) ⟨p, want, v, at', ()⟩ = ref_Live_p nf (fun p0 p1 p2 v0 v1 => iter nf (LC.F tab (ref_Live_phi nf) (fun _ F => iter nf F) ref_Live_keep 0 (ref_Live_L0 nf)) (ref_Live_m0 p0 p1 p2 v0 v1)) p want v at' := by kernel_rfl
  rw [h]
  simp only [ref_Live_e0]
  rfl
def ref_Live_F (nf : Nat) (x : denPs [.val (.sl (.pair (.sl tI5fn1) (.pair (.int .i64) (.pair (.int .i64) (.pair (.int .i64) (.unit)))))) (.bor true false), .val (.int .u32) (.bor true false), .val (.int .i64) (.bor true false), .val (.pair (.int .i64) (.pair (.int .i64) (.unit))) (.bor true false)]) : Option (denL [(.bool, .bor false true)]) := ref_Live_f nf x.1 x.2.1 x.2.2.1 x.2.2.2.1
def ref_Live_C (nf : Nat) : Contract := ⟨[.val (.sl (.pair (.sl tI5fn1) (.pair (.int .i64) (.pair (.int .i64) (.pair (.int .i64) (.unit)))))) (.bor true false), .val (.int .u32) (.bor true false), .val (.int .i64) (.bor true false), .val (.pair (.int .i64) (.pair (.int .i64) (.unit))) (.bor true false)], [(.bool, .bor false true)], ref_Live_F nf, []⟩
theorem ref_Live_ok : FnOK Try.prog 31 := ⟨Try.f31, codeOf Try.f31, Try.func31, by kernel_rfl, by kernel_rfl⟩
theorem ref_Live_holds (nf : Nat) : Contract.Holds Try.prog 31 (ref_Live_C nf) :=
  fn_holds (Φ := ref_Live_phi nf) (keep := ref_Live_keep) (n := nf) ⟨tabs.1, tabs.2, (ctx_cons ref_Nexts_ok (ref_Nexts_holds nf) (ctx_cons ref_Bit_ok (ref_Bit_holds nf) (ctx_cons ref_Reads_ok (ref_Reads_holds nf) (ctx_cons ref_comes_ok (ref_comes_holds nf) ctx_nil)))), mixed, bk_ok bkls rfl⟩ (fn := Try.f31) ⟨Try.func31, by kernel_rfl, by kernel_rfl, by kernel_rfl⟩ (fun x => ref_Live_eq nf x.1 x.2.1 x.2.2.1 x.2.2.2.1)

/-! codemason codemasonlaw.LiveTells -/
def law_LiveTells_phi (nf : Nat) : Nat → Option Contract := lookC [(28, live_In_C nf), (29, law_wantCode_C nf), (30, ref_Bit_C nf), (31, ref_Live_C nf), (32, ref_Fits_C nf)]
def law_LiveTells_keep : Nat → List Nat := lookK [(2, [0, 1, 2, 7, 8, 10, 11, 12, 16, 17]), (0, [0, 1, 2, 7, 8, 10, 12, 16, 17])]
def law_LiveTells_b0 (nf : Nat) (l2 : Int → TBlfn1 → Int → List Int × Int × Unit → Int → List Int → Int → Option (Bool × Unit)) (vars : Int) (p : TBlfn1) (want : Int) (r : List Int × Int × Unit) (g0 : List Int → Int → Option (Bool × Unit)) (l' : List Int) (i : Int) : Option (Bool × Unit) :=
  bif decide (i < (↑l'.length : Int)) then
    bif decide (i < (↑p.length : Int)) then
      l2 vars p want r i l' 0
    else
      bif r.snd.fst == 0 then
        some (((↑l'.length : Int) == (↑p.length : Int), ()))
      else
        some ((false, ()))
  else
    bif r.snd.fst == 0 then
      some (((↑l'.length : Int) == (↑p.length : Int), ()))
    else
      some ((false, ()))
def law_LiveTells_b2 (nf : Nat) (vars : Int) (p : TBlfn1) (want : Int) (r : List Int × Int × Unit) (i : Int) (g0 : List Int → Int → Option (Bool × Unit)) (g2 : List Int → Int → Option (Bool × Unit)) (l'2 : List Int) (v : Int) : Option (Bool × Unit) :=
  bif decide (v < vars) then
    bif inb i l'2.length then
      Option.bind (ref_Bit_f nf (l'2.getD i.toNat 0) v) fun r3 =>
      Option.bind (ref_Live_f nf p want v ((i, 0, ()))) fun r4 =>
      bif r3.fst != r4.fst then
        some ((false, ()))
      else
        g2 l'2 (IntKind.i64.wrap (v + 1))
    else
      none
  else
    bif inb i l'2.length then
      Option.bind (ref_Fits_f nf vars (l'2.getD i.toNat 0)) fun r5 =>
      bif !r5.fst then
        some ((false, ()))
      else
        g0 l'2 (IntKind.i64.wrap (i + 1))
    else
      none
def law_LiveTells_p (nf : Nat) (l0 : Int → TBlfn1 → Int → List Int × Int × Unit → List Int → Int → Option (Bool × Unit)) (vars : Int) (p : TBlfn1) (want : Int) : Option (Bool × Unit) :=
  Option.bind (live_In_f nf vars p want) fun r =>
  Option.bind (law_wantCode_f nf vars p want) fun r2 =>
  bif r2.fst != 0 then
    bif r.snd.fst == r2.fst then
      some (((↑(List.length r.fst) : Int) == 0, ()))
    else
      some ((false, ()))
  else
    l0 vars p want r r.fst 0
def law_LiveTells_l2 (nf : Nat) (vars : Int) (p : TBlfn1) (want : Int) (r : List Int × Int × Unit) (i : Int) (g0 : List Int → Int → Option (Bool × Unit)) : Nat → List Int → Int → Option (Bool × Unit)
  | 0, _, _ => none
  | fu + 1, l'2, v => law_LiveTells_b2 nf  vars p want r i g0 (law_LiveTells_l2 nf vars p want r i g0 fu) l'2 v
def law_LiveTells_l0 (nf : Nat) (vars : Int) (p : TBlfn1) (want : Int) (r : List Int × Int × Unit) : Nat → List Int → Int → Option (Bool × Unit)
  | 0, _, _ => none
  | fu + 1, l', i => law_LiveTells_b0 nf (fun _ _ _ _ p4 v0 v1 => law_LiveTells_l2 nf vars p want r p4 (fun l' i => law_LiveTells_l0 nf vars p want r  fu l' i) nf v0 v1) vars p want r  (law_LiveTells_l0 nf vars p want r  fu) l' i
def law_LiveTells_f (nf : Nat) (vars : Int) (p : TBlfn1) (want : Int) : Option (Bool × Unit) := law_LiveTells_p nf (fun p0 p1 p2 p3 v0 v1 => law_LiveTells_l0 nf p0 p1 p2 p3 nf v0 v1) vars p want
noncomputable def law_LiveTells_L0 (nf : Nat) : LC (Bool × Unit) := theL (findL tab (law_LiveTells_phi nf) (fun _ F => iter nf F) law_LiveTells_keep 0 0 (codeOf Try.f6) (fin tab [(Ty.bool, Md.bor false true)] (resL ([]) Try.f6)) (fun _ _ => none) (fin tab [(Ty.bool, Md.bor false true)] (resL ([]) Try.f6)))
def law_LiveTells_m0 (vars : Int) (p : TBlfn1) (want : Int) (r : List Int × Int × Unit) (l' : List Int) (i : Int) : St := ⟨fresh, [(0, AV.v (Ty.int IntKind.i64) (Md.bor false true) vars), (1, AV.v (tI5fn1.sl.pair ((Ty.int IntKind.i64).pair tI2fn1)).sl (Md.bor false false) p), (2, AV.v (Ty.int IntKind.u32) (Md.bor false true) want), (7, AV.ow 500007 (Ty.int IntKind.u32).sl (Md.own false (Md.bor false false)) l'), (8, AV.v (Ty.int IntKind.i64) (Md.bor false true) r.snd.fst), (10, AV.v (Ty.int IntKind.i64) (Md.bor false true) i), (12, AV.dead), (16, AV.dead), (17, AV.dead)]⟩
noncomputable def law_LiveTells_L2 (nf : Nat) (G0 : St → Option (Bool × Unit)) : LC (Bool × Unit) := theL (findL tab (law_LiveTells_phi nf) (fun _ F => iter nf F) law_LiveTells_keep 2 0 (law_LiveTells_L0 nf ).c (fun st => norm (law_LiveTells_keep 0) st G0) (law_LiveTells_L0 nf ).Kx (law_LiveTells_L0 nf ).Kr)
def law_LiveTells_m2 (vars : Int) (p : TBlfn1) (want : Int) (r : List Int × Int × Unit) (i : Int) (l'2 : List Int) (v : Int) : St := ⟨fresh, [(0, AV.v (Ty.int IntKind.i64) (Md.bor false true) vars), (1, AV.v (tI5fn1.sl.pair ((Ty.int IntKind.i64).pair tI2fn1)).sl (Md.bor false false) p), (2, AV.v (Ty.int IntKind.u32) (Md.bor false true) want), (7, AV.ow 500007 (Ty.int IntKind.u32).sl (Md.own false (Md.bor false false)) l'2), (8, AV.v (Ty.int IntKind.i64) (Md.bor false true) r.snd.fst), (10, AV.v (Ty.int IntKind.i64) (Md.bor false true) i), (11, AV.v (Ty.int IntKind.i64) (Md.bor false true) v), (12, AV.dead), (16, AV.dead), (17, AV.dead)]⟩
theorem law_LiveTells_h2 (nf : Nat) (G0 : St → Option (Bool × Unit)) (vars : Int) (p : TBlfn1) (want : Int) (r : List Int × Int × Unit) (i : Int) (fu : Nat) (l'2 : List Int) (v : Int) : iter (fu + 1) (LC.F tab (law_LiveTells_phi nf) (fun _ F => iter nf F) law_LiveTells_keep 2 (law_LiveTells_L2 nf G0)) (law_LiveTells_m2 vars p want r i l'2 v) = law_LiveTells_b2 nf  vars p want r i (fun l' i => G0 (law_LiveTells_m0 vars p want r l' i)) (fun l'2 v => iter fu (LC.F tab (law_LiveTells_phi nf) (fun _ F => iter nf F) law_LiveTells_keep 2 (law_LiveTells_L2 nf G0)) (law_LiveTells_m2 vars p want r i l'2 v)) l'2 v := by kernel_rfl
theorem law_LiveTells_e2 (nf : Nat) (G0 : St → Option (Bool × Unit)) (vars : Int) (p : TBlfn1) (want : Int) (r : List Int × Int × Unit) (i : Int) : ∀ (fu : Nat) (l'2 : List Int) (v : Int), iter fu (LC.F tab (law_LiveTells_phi nf) (fun _ F => iter nf F) law_LiveTells_keep 2 (law_LiveTells_L2 nf G0)) (law_LiveTells_m2 vars p want r i l'2 v) = law_LiveTells_l2 nf vars p want r i (fun l' i => G0 (law_LiveTells_m0 vars p want r l' i)) fu l'2 v := by
  intro fu
  induction fu with
  | zero => intros; rfl
  | succ fu ih =>
    intro l'2 v
    rw [law_LiveTells_h2 nf G0 vars p want r i fu l'2 v]
    simp only [ih]
    rfl
theorem law_LiveTells_h0 (nf : Nat)  (vars : Int) (p : TBlfn1) (want : Int) (r : List Int × Int × Unit) (fu : Nat) (l' : List Int) (i : Int) : iter (fu + 1) (LC.F tab (law_LiveTells_phi nf) (fun _ F => iter nf F) law_LiveTells_keep 0 (law_LiveTells_L0 nf )) (law_LiveTells_m0 vars p want r l' i) = law_LiveTells_b0 nf (fun _ _ _ _ p4 v0 v1 => iter nf (LC.F tab (law_LiveTells_phi nf) (fun _ F => iter nf F) law_LiveTells_keep 2 (law_LiveTells_L2 nf (iter fu (LC.F tab (law_LiveTells_phi nf) (fun _ F => iter nf F) law_LiveTells_keep 0 (law_LiveTells_L0 nf ))))) (law_LiveTells_m2 vars p want r p4 v0 v1)) vars p want r  (fun l' i => iter fu (LC.F tab (law_LiveTells_phi nf) (fun _ F => iter nf F) law_LiveTells_keep 0 (law_LiveTells_L0 nf )) (law_LiveTells_m0 vars p want r l' i)) l' i := by kernel_rfl
theorem law_LiveTells_e0 (nf : Nat)  (vars : Int) (p : TBlfn1) (want : Int) (r : List Int × Int × Unit) : ∀ (fu : Nat) (l' : List Int) (i : Int), iter fu (LC.F tab (law_LiveTells_phi nf) (fun _ F => iter nf F) law_LiveTells_keep 0 (law_LiveTells_L0 nf )) (law_LiveTells_m0 vars p want r l' i) = law_LiveTells_l0 nf vars p want r  fu l' i := by
  intro fu
  induction fu with
  | zero => intros; rfl
  | succ fu ih =>
    intro l' i
    rw [law_LiveTells_h0 nf  vars p want r fu l' i]
    simp only [ih, law_LiveTells_e2]
    rfl
theorem law_LiveTells_eq (nf : Nat) (vars : Int) (p : TBlfn1) (want : Int) : runF tab (law_LiveTells_phi nf) law_LiveTells_keep nf [PT.val (Ty.int IntKind.i64) (Md.bor false false), PT.val (tI5fn1.sl.pair ((Ty.int IntKind.i64).pair tI2fn1)).sl (Md.bor false false), PT.val (Ty.int IntKind.u32) (Md.bor false false)] [(Ty.bool, Md.bor false true)] (resL ([]) Try.f6) (codeOf Try.f6) ⟨vars, p, want, ()⟩ = law_LiveTells_f nf vars p want := by
  have h : runF tab (law_LiveTells_phi nf) law_LiveTells_keep nf [PT.val (Ty.int IntKind.i64) (Md.bor false false), PT.val (tI5fn1.sl.pair ((Ty.int IntKind.i64).pair tI2fn1)).sl (Md.bor false false), PT.val (Ty.int IntKind.u32) (Md.bor false false)] [(Ty.bool, Md.bor false true)] (resL ([]) Try.f6) (codeOf Try.f6) ⟨vars, p, want, ()⟩ = law_LiveTells_p nf (fun p0 p1 p2 p3 v0 v1 => iter nf (LC.F tab (law_LiveTells_phi nf) (fun _ F => iter nf F) law_LiveTells_keep 0 (law_LiveTells_L0 nf)) (law_LiveTells_m0 p0 p1 p2 p3 v0 v1)) vars p want := by kernel_rfl
  rw [h]
  simp only [law_LiveTells_e0]
  rfl
def law_LiveTells_F (nf : Nat) (x : denPs [.val (.int .i64) (.bor false false), .val (.sl (.pair (.sl tI5fn1) (.pair (.int .i64) (.pair (.int .i64) (.pair (.int .i64) (.unit)))))) (.bor false false), .val (.int .u32) (.bor false false)]) : Option (denL [(.bool, .bor false true)]) := law_LiveTells_f nf x.1 x.2.1 x.2.2.1
def law_LiveTells_C (nf : Nat) : Contract := ⟨[.val (.int .i64) (.bor false false), .val (.sl (.pair (.sl tI5fn1) (.pair (.int .i64) (.pair (.int .i64) (.pair (.int .i64) (.unit)))))) (.bor false false), .val (.int .u32) (.bor false false)], [(.bool, .bor false true)], law_LiveTells_F nf, []⟩
theorem law_LiveTells_ok : FnOK Try.prog 6 := ⟨Try.f6, codeOf Try.f6, Try.func6, by kernel_rfl, by kernel_rfl⟩
theorem law_LiveTells_holds (nf : Nat) : Contract.Holds Try.prog 6 (law_LiveTells_C nf) :=
  fn_holds (Φ := law_LiveTells_phi nf) (keep := law_LiveTells_keep) (n := nf) ⟨tabs.1, tabs.2, (ctx_cons live_In_ok (live_In_holds nf) (ctx_cons law_wantCode_ok (law_wantCode_holds nf) (ctx_cons ref_Bit_ok (ref_Bit_holds nf) (ctx_cons ref_Live_ok (ref_Live_holds nf) (ctx_cons ref_Fits_ok (ref_Fits_holds nf) ctx_nil))))), mixed, bk_ok bkls rfl⟩ (fn := Try.f6) ⟨Try.func6, by kernel_rfl, by kernel_rfl, by kernel_rfl⟩ (fun x => law_LiveTells_eq nf x.1 x.2.1 x.2.2.1)

/-! codemason term.Do -/
def term_Do_phi (nf : Nat) : Nat → Option Contract := lookC []
def term_Do_keep : Nat → List Nat := lookK []
def term_Do_p (nf : Nat)  (op : Int) (a : Int) (b : Int) : Option (Int × Unit) :=
  bif op == 3 then
    some ((IntKind.i64.wrap (↑(BitVec.ofInt IntKind.i64.bits (IntKind.i64.wrap (a + b)) &&& BitVec.ofInt IntKind.i64.bits 255).toNat : Int), ()))
  else
    bif op == 4 then
      some ((IntKind.i64.wrap (↑(BitVec.ofInt IntKind.i64.bits (IntKind.i64.wrap (a - b)) &&& BitVec.ofInt IntKind.i64.bits 255).toNat : Int), ()))
    else
      bif op == 5 then
        some ((IntKind.i64.wrap (↑(BitVec.ofInt IntKind.i64.bits (IntKind.i64.wrap (a * b)) &&& BitVec.ofInt IntKind.i64.bits 255).toNat : Int), ()))
      else
        bif decide (a < b) then
          some ((1, ()))
        else
          some ((0, ()))
def term_Do_f (nf : Nat) (op : Int) (a : Int) (b : Int) : Option (Int × Unit) := term_Do_p nf  op a b
theorem term_Do_eq (nf : Nat) (op : Int) (a : Int) (b : Int) : runF tab (term_Do_phi nf) term_Do_keep nf [PT.val (Ty.int IntKind.i64) (Md.bor true false), PT.val (Ty.int IntKind.i64) (Md.bor true false), PT.val (Ty.int IntKind.i64) (Md.bor true false)] [(Ty.int IntKind.i64, Md.bor false true)] (resL ([]) Try.f112) (codeOf Try.f112) ⟨op, a, b, ()⟩ = term_Do_f nf op a b := by
  have h : runF tab (term_Do_phi nf) term_Do_keep nf [PT.val (Ty.int IntKind.i64) (Md.bor true false), PT.val (Ty.int IntKind.i64) (Md.bor true false), PT.val (Ty.int IntKind.i64) (Md.bor true false)] [(Ty.int IntKind.i64, Md.bor false true)] (resL ([]) Try.f112) (codeOf Try.f112) ⟨op, a, b, ()⟩ = term_Do_p nf  op a b := by kernel_rfl
  exact h
def term_Do_F (nf : Nat) (x : denPs [.val (.int .i64) (.bor true false), .val (.int .i64) (.bor true false), .val (.int .i64) (.bor true false)]) : Option (denL [(.int .i64, .bor false true)]) := term_Do_f nf x.1 x.2.1 x.2.2.1
def term_Do_C (nf : Nat) : Contract := ⟨[.val (.int .i64) (.bor true false), .val (.int .i64) (.bor true false), .val (.int .i64) (.bor true false)], [(.int .i64, .bor false true)], term_Do_F nf, []⟩
theorem term_Do_ok : FnOK Try.prog 112 := ⟨Try.f112, codeOf Try.f112, Try.func112, by kernel_rfl, by kernel_rfl⟩
theorem term_Do_holds (nf : Nat) : Contract.Holds Try.prog 112 (term_Do_C nf) :=
  fn_holds (Φ := term_Do_phi nf) (keep := term_Do_keep) (n := nf) ⟨tabs.1, tabs.2, ctx_nil, mixed, bk_ok bkls rfl⟩ (fn := Try.f112) ⟨Try.func112, by kernel_rfl, by kernel_rfl, by kernel_rfl⟩ (fun x => term_Do_eq nf x.1 x.2.1 x.2.2.1)

/-! codemason term.Have 1 -/
def term_Have_1_phi (nf : Nat) : Nat → Option Contract := lookC []
def term_Have_1_keep : Nat → List Nat := lookK []
def term_Have_1_p (nf : Nat)  (x : Int) : Option (Bool × Unit) :=
  bif decide (x < 0) then
    some ((true, ()))
  else
    some ((decide (x > 255), ()))
def term_Have_1_f (nf : Nat) (x : Int) : Option (Bool × Unit) := term_Have_1_p nf  x
theorem term_Have_1_eq (nf : Nat) (x : Int) : runF tab (term_Have_1_phi nf) term_Have_1_keep nf [PT.val (Ty.int IntKind.i64) (Md.bor true false)] [(Ty.bool, Md.bor false true)] (resL ([]) Try.f119) (codeOf Try.f119) ⟨x, ()⟩ = term_Have_1_f nf x := by
  have h : runF tab (term_Have_1_phi nf) term_Have_1_keep nf [PT.val (Ty.int IntKind.i64) (Md.bor true false)] [(Ty.bool, Md.bor false true)] (resL ([]) Try.f119) (codeOf Try.f119) ⟨x, ()⟩ = term_Have_1_p nf  x := by kernel_rfl
  exact h
def term_Have_1_F (nf : Nat) (x : denPs [.val (.int .i64) (.bor true false)]) : Option (denL [(.bool, .bor false true)]) := term_Have_1_f nf x.1
def term_Have_1_C (nf : Nat) : Contract := ⟨[.val (.int .i64) (.bor true false)], [(.bool, .bor false true)], term_Have_1_F nf, []⟩
theorem term_Have_1_ok : FnOK Try.prog 119 := ⟨Try.f119, codeOf Try.f119, Try.func119, by kernel_rfl, by kernel_rfl⟩
theorem term_Have_1_holds (nf : Nat) : Contract.Holds Try.prog 119 (term_Have_1_C nf) :=
  fn_holds (Φ := term_Have_1_phi nf) (keep := term_Have_1_keep) (n := nf) ⟨tabs.1, tabs.2, ctx_nil, mixed, bk_ok bkls rfl⟩ (fn := Try.f119) ⟨Try.func119, by kernel_rfl, by kernel_rfl, by kernel_rfl⟩ (fun x => term_Have_1_eq nf x.1)

/-! slices.IndexFunc   int int  codemason term.Have 1 -/
def slices_IndexFunc__term_Have_1_phi (nf : Nat) : Nat → Option Contract := lookC [(119, term_Have_1_C nf)]
def slices_IndexFunc__term_Have_1_keep : Nat → List Nat := lookK [(0, [0, 1, 7, 8])]
def slices_IndexFunc__term_Have_1_b0 (nf : Nat) (s : List Int) (g0 : Int → Option (Int × Unit)) (t8 : Int) : Option (Int × Unit) :=
  bif decide (t8 < (↑s.length : Int)) then
    bif inb t8 s.length then
      Option.bind (term_Have_1_f nf (s.getD t8.toNat 0)) fun r =>
      bif r.fst then
        some ((t8, ()))
      else
        g0 (IntKind.i64.wrap (t8 + 1))
    else
      none
  else
    some ((-1, ()))
def slices_IndexFunc__term_Have_1_p (nf : Nat) (l0 : List Int → Int → Option (Int × Unit)) (s : List Int) (f : Unit) : Option (Int × Unit) :=
  l0 s 0
def slices_IndexFunc__term_Have_1_l0 (nf : Nat) (s : List Int) : Nat → Int → Option (Int × Unit)
  | 0, _ => none
  | fu + 1, t8 => slices_IndexFunc__term_Have_1_b0 nf  s  (slices_IndexFunc__term_Have_1_l0 nf s  fu) t8
def slices_IndexFunc__term_Have_1_f (nf : Nat) (s : List Int) (f : Unit) : Option (Int × Unit) := slices_IndexFunc__term_Have_1_p nf (fun p0 v0 => slices_IndexFunc__term_Have_1_l0 nf p0 nf v0) s f
noncomputable def slices_IndexFunc__term_Have_1_L0 (nf : Nat) : LC (Int × Unit) := theL (findL tab (slices_IndexFunc__term_Have_1_phi nf) (fun _ F => iter nf F) slices_IndexFunc__term_Have_1_keep 0 0 (codeOf Try.f137) (fin tab [(Ty.int IntKind.i64, Md.bor false true)] (resL ([]) Try.f137)) (fun _ _ => none) (fin tab [(Ty.int IntKind.i64, Md.bor false true)] (resL ([]) Try.f137)))
def slices_IndexFunc__term_Have_1_m0 (s : List Int) (t8 : Int) : St := ⟨fresh, [(0, AV.v (Ty.int IntKind.i64).sl (Md.bor true false) s), (1, AV.clo 119 []), (7, AV.v (Ty.int IntKind.i64) (Md.bor false true) (↑s.length : Int)), (8, AV.v (Ty.int IntKind.i64) (Md.bor false true) t8)]⟩
theorem slices_IndexFunc__term_Have_1_h0 (nf : Nat)  (s : List Int) (fu : Nat) (t8 : Int) : iter (fu + 1) (LC.F tab (slices_IndexFunc__term_Have_1_phi nf) (fun _ F => iter nf F) slices_IndexFunc__term_Have_1_keep 0 (slices_IndexFunc__term_Have_1_L0 nf )) (slices_IndexFunc__term_Have_1_m0 s t8) = slices_IndexFunc__term_Have_1_b0 nf  s  (fun t8 => iter fu (LC.F tab (slices_IndexFunc__term_Have_1_phi nf) (fun _ F => iter nf F) slices_IndexFunc__term_Have_1_keep 0 (slices_IndexFunc__term_Have_1_L0 nf )) (slices_IndexFunc__term_Have_1_m0 s t8)) t8 := by kernel_rfl
theorem slices_IndexFunc__term_Have_1_e0 (nf : Nat)  (s : List Int) : ∀ (fu : Nat) (t8 : Int), iter fu (LC.F tab (slices_IndexFunc__term_Have_1_phi nf) (fun _ F => iter nf F) slices_IndexFunc__term_Have_1_keep 0 (slices_IndexFunc__term_Have_1_L0 nf )) (slices_IndexFunc__term_Have_1_m0 s t8) = slices_IndexFunc__term_Have_1_l0 nf s  fu t8 := by
  intro fu
  induction fu with
  | zero => intros; rfl
  | succ fu ih =>
    intro t8
    rw [slices_IndexFunc__term_Have_1_h0 nf  s fu t8]
    simp only [ih]
    rfl
theorem slices_IndexFunc__term_Have_1_eq (nf : Nat) (s : List Int) (f : Unit) : runF tab (slices_IndexFunc__term_Have_1_phi nf) slices_IndexFunc__term_Have_1_keep nf [PT.val (Ty.int IntKind.i64).sl (Md.bor true false), PT.clo 119 []] [(Ty.int IntKind.i64, Md.bor false true)] (resL ([]) Try.f137) (codeOf Try.f137) ⟨s, f, ()⟩ = slices_IndexFunc__term_Have_1_f nf s f := by
  have h : runF tab (slices_IndexFunc__term_Have_1_phi nf) slices_IndexFunc__term_Have_1_keep nf [PT.val (Ty.int IntKind.i64).sl (Md.bor true false), PT.clo 119 []] [(Ty.int IntKind.i64, Md.bor false true)] (resL ([]) Try.f137) (codeOf Try.f137) ⟨s, f, ()⟩ = slices_IndexFunc__term_Have_1_p nf (fun p0 v0 => iter nf (LC.F tab (slices_IndexFunc__term_Have_1_phi nf) (fun _ F => iter nf F) slices_IndexFunc__term_Have_1_keep 0 (slices_IndexFunc__term_Have_1_L0 nf)) (slices_IndexFunc__term_Have_1_m0 p0 v0)) s f := by kernel_rfl
  rw [h]
  simp only [slices_IndexFunc__term_Have_1_e0]
  rfl
def slices_IndexFunc__term_Have_1_F (nf : Nat) (x : denPs [.val (.sl (.int .i64)) (.bor true false), .clo 119 []]) : Option (denL [(.int .i64, .bor false true)]) := slices_IndexFunc__term_Have_1_f nf x.1 x.2.1
def slices_IndexFunc__term_Have_1_C (nf : Nat) : Contract := ⟨[.val (.sl (.int .i64)) (.bor true false), .clo 119 []], [(.int .i64, .bor false true)], slices_IndexFunc__term_Have_1_F nf, []⟩
theorem slices_IndexFunc__term_Have_1_ok : FnOK Try.prog 137 := ⟨Try.f137, codeOf Try.f137, Try.func137, by kernel_rfl, by kernel_rfl⟩
theorem slices_IndexFunc__term_Have_1_holds (nf : Nat) : Contract.Holds Try.prog 137 (slices_IndexFunc__term_Have_1_C nf) :=
  fn_holds (Φ := slices_IndexFunc__term_Have_1_phi nf) (keep := slices_IndexFunc__term_Have_1_keep) (n := nf) ⟨tabs.1, tabs.2, (ctx_cons term_Have_1_ok (term_Have_1_holds nf) ctx_nil), mixed, bk_ok bkls rfl⟩ (fn := Try.f137) ⟨Try.func137, by kernel_rfl, by kernel_rfl, by kernel_rfl⟩ (fun x => slices_IndexFunc__term_Have_1_eq nf x.1 x.2.1)

/-! slices.ContainsFunc   int int  codemason term.Have 1 -/
def slices_ContainsFunc__term_Have_1_phi (nf : Nat) : Nat → Option Contract := lookC [(137, slices_IndexFunc__term_Have_1_C nf)]
def slices_ContainsFunc__term_Have_1_keep : Nat → List Nat := lookK []
def slices_ContainsFunc__term_Have_1_p (nf : Nat)  (s : List Int) (f : Unit) : Option (Bool × Unit) :=
  Option.bind (slices_IndexFunc__term_Have_1_f nf s (())) fun r =>
  some ((decide (r.fst ≥ 0), ()))
def slices_ContainsFunc__term_Have_1_f (nf : Nat) (s : List Int) (f : Unit) : Option (Bool × Unit) := slices_ContainsFunc__term_Have_1_p nf  s f
theorem slices_ContainsFunc__term_Have_1_eq (nf : Nat) (s : List Int) (f : Unit) : runF tab (slices_ContainsFunc__term_Have_1_phi nf) slices_ContainsFunc__term_Have_1_keep nf [PT.val (Ty.int IntKind.i64).sl (Md.bor true false), PT.clo 119 []] [(Ty.bool, Md.bor false true)] (resL ([]) Try.f118) (codeOf Try.f118) ⟨s, f, ()⟩ = slices_ContainsFunc__term_Have_1_f nf s f := by
  have h : runF tab (slices_ContainsFunc__term_Have_1_phi nf) slices_ContainsFunc__term_Have_1_keep nf [PT.val (Ty.int IntKind.i64).sl (Md.bor true false), PT.clo 119 []] [(Ty.bool, Md.bor false true)] (resL ([]) Try.f118) (codeOf Try.f118) ⟨s, f, ()⟩ = slices_ContainsFunc__term_Have_1_p nf  s f := by kernel_rfl
  exact h
def slices_ContainsFunc__term_Have_1_F (nf : Nat) (x : denPs [.val (.sl (.int .i64)) (.bor true false), .clo 119 []]) : Option (denL [(.bool, .bor false true)]) := slices_ContainsFunc__term_Have_1_f nf x.1 x.2.1
def slices_ContainsFunc__term_Have_1_C (nf : Nat) : Contract := ⟨[.val (.sl (.int .i64)) (.bor true false), .clo 119 []], [(.bool, .bor false true)], slices_ContainsFunc__term_Have_1_F nf, []⟩
theorem slices_ContainsFunc__term_Have_1_ok : FnOK Try.prog 118 := ⟨Try.f118, codeOf Try.f118, Try.func118, by kernel_rfl, by kernel_rfl⟩
theorem slices_ContainsFunc__term_Have_1_holds (nf : Nat) : Contract.Holds Try.prog 118 (slices_ContainsFunc__term_Have_1_C nf) :=
  fn_holds (Φ := slices_ContainsFunc__term_Have_1_phi nf) (keep := slices_ContainsFunc__term_Have_1_keep) (n := nf) ⟨tabs.1, tabs.2, (ctx_cons slices_IndexFunc__term_Have_1_ok (slices_IndexFunc__term_Have_1_holds nf) ctx_nil), mixed, bk_ok bkls rfl⟩ (fn := Try.f118) ⟨Try.func118, by kernel_rfl, by kernel_rfl, by kernel_rfl⟩ (fun x => slices_ContainsFunc__term_Have_1_eq nf x.1 x.2.1)

/-! codemason term.Have -/
def term_Have_phi (nf : Nat) : Nat → Option Contract := lookC [(118, slices_ContainsFunc__term_Have_1_C nf)]
def term_Have_keep : Nat → List Nat := lookK []
def term_Have_p (nf : Nat)  (vars : Int) (have' : List Int) : Option (Int × Unit) :=
  bif (↑have'.length : Int) != vars then
    some ((3, ()))
  else
    Option.bind (slices_ContainsFunc__term_Have_1_f nf have' (())) fun r =>
    bif r.fst then
      some ((4, ()))
    else
      some ((0, ()))
def term_Have_f (nf : Nat) (vars : Int) (have' : List Int) : Option (Int × Unit) := term_Have_p nf  vars have'
theorem term_Have_eq (nf : Nat) (vars : Int) (have' : List Int) : runF tab (term_Have_phi nf) term_Have_keep nf [PT.val (Ty.int IntKind.i64) (Md.bor true false), PT.val (Ty.int IntKind.i64).sl (Md.bor true false)] [(Ty.int IntKind.i64, Md.bor false true)] (resL ([]) Try.f68) (codeOf Try.f68) ⟨vars, have', ()⟩ = term_Have_f nf vars have' := by
  have h : runF tab (term_Have_phi nf) term_Have_keep nf [PT.val (Ty.int IntKind.i64) (Md.bor true false), PT.val (Ty.int IntKind.i64).sl (Md.bor true false)] [(Ty.int IntKind.i64, Md.bor false true)] (resL ([]) Try.f68) (codeOf Try.f68) ⟨vars, have', ()⟩ = term_Have_p nf  vars have' := by kernel_rfl
  exact h
def term_Have_F (nf : Nat) (x : denPs [.val (.int .i64) (.bor true false), .val (.sl (.int .i64)) (.bor true false)]) : Option (denL [(.int .i64, .bor false true)]) := term_Have_f nf x.1 x.2.1
def term_Have_C (nf : Nat) : Contract := ⟨[.val (.int .i64) (.bor true false), .val (.sl (.int .i64)) (.bor true false)], [(.int .i64, .bor false true)], term_Have_F nf, []⟩
theorem term_Have_ok : FnOK Try.prog 68 := ⟨Try.f68, codeOf Try.f68, Try.func68, by kernel_rfl, by kernel_rfl⟩
theorem term_Have_holds (nf : Nat) : Contract.Holds Try.prog 68 (term_Have_C nf) :=
  fn_holds (Φ := term_Have_phi nf) (keep := term_Have_keep) (n := nf) ⟨tabs.1, tabs.2, (ctx_cons slices_ContainsFunc__term_Have_1_ok (slices_ContainsFunc__term_Have_1_holds nf) ctx_nil), mixed, bk_ok bkls rfl⟩ (fn := Try.f68) ⟨Try.func68, by kernel_rfl, by kernel_rfl, by kernel_rfl⟩ (fun x => term_Have_eq nf x.1 x.2.1)

/-! codemason codemasonref.HaveCheck -/
def ref_HaveCheck_phi (nf : Nat) : Nat → Option Contract := lookC [(96, ref_Value_C nf)]
def ref_HaveCheck_keep : Nat → List Nat := lookK [(0, [1, 11, 12, 13])]
def ref_HaveCheck_b0 (nf : Nat) (have' : List Int) (g0 : Int → Option (Int × Unit)) (t13 : Int) : Option (Int × Unit) :=
  bif decide (t13 < (↑have'.length : Int)) then
    bif inb t13 have'.length then
      Option.bind (ref_Value_f nf (have'.getD t13.toNat 0)) fun r =>
      bif !r.fst then
        some ((4, ()))
      else
        g0 (IntKind.i64.wrap (t13 + 1))
    else
      none
  else
    some ((0, ()))
def ref_HaveCheck_p (nf : Nat) (l0 : List Int → Int → Option (Int × Unit)) (vars : Int) (have' : List Int) : Option (Int × Unit) :=
  bif (↑have'.length : Int) != vars then
    some ((3, ()))
  else
    l0 have' 0
def ref_HaveCheck_l0 (nf : Nat) (have' : List Int) : Nat → Int → Option (Int × Unit)
  | 0, _ => none
  | fu + 1, t13 => ref_HaveCheck_b0 nf  have'  (ref_HaveCheck_l0 nf have'  fu) t13
def ref_HaveCheck_f (nf : Nat) (vars : Int) (have' : List Int) : Option (Int × Unit) := ref_HaveCheck_p nf (fun p0 v0 => ref_HaveCheck_l0 nf p0 nf v0) vars have'
noncomputable def ref_HaveCheck_L0 (nf : Nat) : LC (Int × Unit) := theL (findL tab (ref_HaveCheck_phi nf) (fun _ F => iter nf F) ref_HaveCheck_keep 0 0 (codeOf Try.f50) (fin tab [(Ty.int IntKind.i64, Md.bor false true)] (resL ([]) Try.f50)) (fun _ _ => none) (fin tab [(Ty.int IntKind.i64, Md.bor false true)] (resL ([]) Try.f50)))
def ref_HaveCheck_m0 (have' : List Int) (t13 : Int) : St := ⟨fresh, [(1, AV.v (Ty.int IntKind.i64).sl (Md.bor true false) have'), (11, AV.v (Ty.int IntKind.i64).sl (Md.bor true false) have'), (12, AV.v (Ty.int IntKind.i64) (Md.bor false true) (↑have'.length : Int)), (13, AV.v (Ty.int IntKind.i64) (Md.bor false true) t13)]⟩
theorem ref_HaveCheck_h0 (nf : Nat)  (have' : List Int) (fu : Nat) (t13 : Int) : iter (fu + 1) (LC.F tab (ref_HaveCheck_phi nf) (fun _ F => iter nf F) ref_HaveCheck_keep 0 (ref_HaveCheck_L0 nf )) (ref_HaveCheck_m0 have' t13) = ref_HaveCheck_b0 nf  have'  (fun t13 => iter fu (LC.F tab (ref_HaveCheck_phi nf) (fun _ F => iter nf F) ref_HaveCheck_keep 0 (ref_HaveCheck_L0 nf )) (ref_HaveCheck_m0 have' t13)) t13 := by kernel_rfl
theorem ref_HaveCheck_e0 (nf : Nat)  (have' : List Int) : ∀ (fu : Nat) (t13 : Int), iter fu (LC.F tab (ref_HaveCheck_phi nf) (fun _ F => iter nf F) ref_HaveCheck_keep 0 (ref_HaveCheck_L0 nf )) (ref_HaveCheck_m0 have' t13) = ref_HaveCheck_l0 nf have'  fu t13 := by
  intro fu
  induction fu with
  | zero => intros; rfl
  | succ fu ih =>
    intro t13
    rw [ref_HaveCheck_h0 nf  have' fu t13]
    simp only [ih]
    rfl
theorem ref_HaveCheck_eq (nf : Nat) (vars : Int) (have' : List Int) : runF tab (ref_HaveCheck_phi nf) ref_HaveCheck_keep nf [PT.val (Ty.int IntKind.i64) (Md.bor true false), PT.val (Ty.int IntKind.i64).sl (Md.bor true false)] [(Ty.int IntKind.i64, Md.bor false true)] (resL ([]) Try.f50) (codeOf Try.f50) ⟨vars, have', ()⟩ = ref_HaveCheck_f nf vars have' := by
  have h : runF tab (ref_HaveCheck_phi nf) ref_HaveCheck_keep nf [PT.val (Ty.int IntKind.i64) (Md.bor true false), PT.val (Ty.int IntKind.i64).sl (Md.bor true false)] [(Ty.int IntKind.i64, Md.bor false true)] (resL ([]) Try.f50) (codeOf Try.f50) ⟨vars, have', ()⟩ = ref_HaveCheck_p nf (fun p0 v0 => iter nf (LC.F tab (ref_HaveCheck_phi nf) (fun _ F => iter nf F) ref_HaveCheck_keep 0 (ref_HaveCheck_L0 nf)) (ref_HaveCheck_m0 p0 v0)) vars have' := by kernel_rfl
  rw [h]
  simp only [ref_HaveCheck_e0]
  rfl
def ref_HaveCheck_F (nf : Nat) (x : denPs [.val (.int .i64) (.bor true false), .val (.sl (.int .i64)) (.bor true false)]) : Option (denL [(.int .i64, .bor false true)]) := ref_HaveCheck_f nf x.1 x.2.1
def ref_HaveCheck_C (nf : Nat) : Contract := ⟨[.val (.int .i64) (.bor true false), .val (.sl (.int .i64)) (.bor true false)], [(.int .i64, .bor false true)], ref_HaveCheck_F nf, []⟩
theorem ref_HaveCheck_ok : FnOK Try.prog 50 := ⟨Try.f50, codeOf Try.f50, Try.func50, by kernel_rfl, by kernel_rfl⟩
theorem ref_HaveCheck_holds (nf : Nat) : Contract.Holds Try.prog 50 (ref_HaveCheck_C nf) :=
  fn_holds (Φ := ref_HaveCheck_phi nf) (keep := ref_HaveCheck_keep) (n := nf) ⟨tabs.1, tabs.2, (ctx_cons ref_Value_ok (ref_Value_holds nf) ctx_nil), mixed, bk_ok bkls rfl⟩ (fn := Try.f50) ⟨Try.func50, by kernel_rfl, by kernel_rfl, by kernel_rfl⟩ (fun x => ref_HaveCheck_eq nf x.1 x.2.1)

/-! codemason codemasonref.Op -/
def ref_Op_phi (nf : Nat) : Nat → Option Contract := lookC []
def ref_Op_keep : Nat → List Nat := lookK []
def ref_Op_p (nf : Nat)  (op : Int) (a : Int) (b : Int) : Option (Int × Unit) :=
  bif op == 3 then
    bif op == 4 then
      bif op == 5 then
        bif op == 6 then
          bif decide (a < b) then
            some ((Int.tmod 1 256, ()))
          else
            some (((IntKind.i64.wrap (a * b)).tmod 256, ()))
        else
          some (((IntKind.i64.wrap (a * b)).tmod 256, ()))
      else
        bif op == 6 then
          bif decide (a < b) then
            some ((Int.tmod 1 256, ()))
          else
            some (((IntKind.i64.wrap (IntKind.i64.wrap (a - b) + 256)).tmod 256, ()))
        else
          some (((IntKind.i64.wrap (IntKind.i64.wrap (a - b) + 256)).tmod 256, ()))
    else
      bif op == 5 then
        bif op == 6 then
          bif decide (a < b) then
            some ((Int.tmod 1 256, ()))
          else
            some (((IntKind.i64.wrap (a * b)).tmod 256, ()))
        else
          some (((IntKind.i64.wrap (a * b)).tmod 256, ()))
      else
        bif op == 6 then
          bif decide (a < b) then
            some ((Int.tmod 1 256, ()))
          else
            some (((IntKind.i64.wrap (a + b)).tmod 256, ()))
        else
          some (((IntKind.i64.wrap (a + b)).tmod 256, ()))
  else
    bif op == 4 then
      bif op == 5 then
        bif op == 6 then
          bif decide (a < b) then
            some ((Int.tmod 1 256, ()))
          else
            some (((IntKind.i64.wrap (a * b)).tmod 256, ()))
        else
          some (((IntKind.i64.wrap (a * b)).tmod 256, ()))
      else
        bif op == 6 then
          bif decide (a < b) then
            some ((Int.tmod 1 256, ()))
          else
            some (((IntKind.i64.wrap (IntKind.i64.wrap (a - b) + 256)).tmod 256, ()))
        else
          some (((IntKind.i64.wrap (IntKind.i64.wrap (a - b) + 256)).tmod 256, ()))
    else
      bif op == 5 then
        bif op == 6 then
          bif decide (a < b) then
            some ((Int.tmod 1 256, ()))
          else
            some (((IntKind.i64.wrap (a * b)).tmod 256, ()))
        else
          some (((IntKind.i64.wrap (a * b)).tmod 256, ()))
      else
        bif op == 6 then
          bif decide (a < b) then
            some ((Int.tmod 1 256, ()))
          else
            some ((Int.tmod 0 256, ()))
        else
          some ((Int.tmod 0 256, ()))
def ref_Op_f (nf : Nat) (op : Int) (a : Int) (b : Int) : Option (Int × Unit) := ref_Op_p nf  op a b
theorem ref_Op_eq (nf : Nat) (op : Int) (a : Int) (b : Int) : runF tab (ref_Op_phi nf) ref_Op_keep nf [PT.val (Ty.int IntKind.i64) (Md.bor true false), PT.val (Ty.int IntKind.i64) (Md.bor true false), PT.val (Ty.int IntKind.i64) (Md.bor true false)] [(Ty.int IntKind.i64, Md.bor false true)] (resL ([]) Try.f114) (codeOf Try.f114) ⟨op, a, b, ()⟩ = ref_Op_f nf op a b := by
  have h : runF tab (ref_Op_phi nf) ref_Op_keep nf [PT.val (Ty.int IntKind.i64) (Md.bor true false), PT.val (Ty.int IntKind.i64) (Md.bor true false), PT.val (Ty.int IntKind.i64) (Md.bor true false)] [(Ty.int IntKind.i64, Md.bor false true)] (resL ([]) Try.f114) (codeOf Try.f114) ⟨op, a, b, ()⟩ = ref_Op_p nf  op a b := by kernel_rfl
  exact h
def ref_Op_F (nf : Nat) (x : denPs [.val (.int .i64) (.bor true false), .val (.int .i64) (.bor true false), .val (.int .i64) (.bor true false)]) : Option (denL [(.int .i64, .bor false true)]) := ref_Op_f nf x.1 x.2.1 x.2.2.1
def ref_Op_C (nf : Nat) : Contract := ⟨[.val (.int .i64) (.bor true false), .val (.int .i64) (.bor true false), .val (.int .i64) (.bor true false)], [(.int .i64, .bor false true)], ref_Op_F nf, []⟩
theorem ref_Op_ok : FnOK Try.prog 114 := ⟨Try.f114, codeOf Try.f114, Try.func114, by kernel_rfl, by kernel_rfl⟩
theorem ref_Op_holds (nf : Nat) : Contract.Holds Try.prog 114 (ref_Op_C nf) :=
  fn_holds (Φ := ref_Op_phi nf) (keep := ref_Op_keep) (n := nf) ⟨tabs.1, tabs.2, ctx_nil, mixed, bk_ok bkls rfl⟩ (fn := Try.f114) ⟨Try.func114, by kernel_rfl, by kernel_rfl, by kernel_rfl⟩ (fun x => ref_Op_eq nf x.1 x.2.1 x.2.2.1)

/-! codemason codemasonref.Ints -/
def ref_Ints_phi (nf : Nat) : Nat → Option Contract := lookC []
def ref_Ints_keep : Nat → List Nat := lookK [(0, [0, 1, 5])]
def ref_Ints_b0 (nf : Nat) (a : List Int) (b : List Int) (g0 : Int → Option (Bool × Unit)) (i : Int) : Option (Bool × Unit) :=
  bif decide (i < (↑a.length : Int)) then
    bif inb i a.length then
      bif inb i b.length then
        bif a.getD i.toNat 0 != b.getD i.toNat 0 then
          some ((false, ()))
        else
          g0 (IntKind.i64.wrap (i + 1))
      else
        none
    else
      none
  else
    some ((true, ()))
def ref_Ints_p (nf : Nat) (l0 : List Int → List Int → Int → Option (Bool × Unit)) (a : List Int) (b : List Int) : Option (Bool × Unit) :=
  bif (↑a.length : Int) != (↑b.length : Int) then
    some ((false, ()))
  else
    l0 a b 0
def ref_Ints_l0 (nf : Nat) (a : List Int) (b : List Int) : Nat → Int → Option (Bool × Unit)
  | 0, _ => none
  | fu + 1, i => ref_Ints_b0 nf  a b  (ref_Ints_l0 nf a b  fu) i
def ref_Ints_f (nf : Nat) (a : List Int) (b : List Int) : Option (Bool × Unit) := ref_Ints_p nf (fun p0 p1 v0 => ref_Ints_l0 nf p0 p1 nf v0) a b
noncomputable def ref_Ints_L0 (nf : Nat) : LC (Bool × Unit) := theL (findL tab (ref_Ints_phi nf) (fun _ F => iter nf F) ref_Ints_keep 0 0 (codeOf Try.f27) (fin tab [(Ty.bool, Md.bor false true)] (resL ([]) Try.f27)) (fun _ _ => none) (fin tab [(Ty.bool, Md.bor false true)] (resL ([]) Try.f27)))
def ref_Ints_m0 (a : List Int) (b : List Int) (i : Int) : St := ⟨fresh, [(0, AV.v (Ty.int IntKind.i64).sl (Md.bor true false) a), (1, AV.v (Ty.int IntKind.i64).sl (Md.bor true false) b), (5, AV.v (Ty.int IntKind.i64) (Md.bor false true) i)]⟩
theorem ref_Ints_h0 (nf : Nat)  (a : List Int) (b : List Int) (fu : Nat) (i : Int) : iter (fu + 1) (LC.F tab (ref_Ints_phi nf) (fun _ F => iter nf F) ref_Ints_keep 0 (ref_Ints_L0 nf )) (ref_Ints_m0 a b i) = ref_Ints_b0 nf  a b  (fun i => iter fu (LC.F tab (ref_Ints_phi nf) (fun _ F => iter nf F) ref_Ints_keep 0 (ref_Ints_L0 nf )) (ref_Ints_m0 a b i)) i := by kernel_rfl
theorem ref_Ints_e0 (nf : Nat)  (a : List Int) (b : List Int) : ∀ (fu : Nat) (i : Int), iter fu (LC.F tab (ref_Ints_phi nf) (fun _ F => iter nf F) ref_Ints_keep 0 (ref_Ints_L0 nf )) (ref_Ints_m0 a b i) = ref_Ints_l0 nf a b  fu i := by
  intro fu
  induction fu with
  | zero => intros; rfl
  | succ fu ih =>
    intro i
    rw [ref_Ints_h0 nf  a b fu i]
    simp only [ih]
    rfl
theorem ref_Ints_eq (nf : Nat) (a : List Int) (b : List Int) : runF tab (ref_Ints_phi nf) ref_Ints_keep nf [PT.val (Ty.int IntKind.i64).sl (Md.bor true false), PT.val (Ty.int IntKind.i64).sl (Md.bor true false)] [(Ty.bool, Md.bor false true)] (resL ([]) Try.f27) (codeOf Try.f27) ⟨a, b, ()⟩ = ref_Ints_f nf a b := by
  have h : runF tab (ref_Ints_phi nf) ref_Ints_keep nf [PT.val (Ty.int IntKind.i64).sl (Md.bor true false), PT.val (Ty.int IntKind.i64).sl (Md.bor true false)] [(Ty.bool, Md.bor false true)] (resL ([]) Try.f27) (codeOf Try.f27) ⟨a, b, ()⟩ = ref_Ints_p nf (fun p0 p1 v0 => iter nf (LC.F tab (ref_Ints_phi nf) (fun _ F => iter nf F) ref_Ints_keep 0 (ref_Ints_L0 nf)) (ref_Ints_m0 p0 p1 v0)) a b := by kernel_rfl
  rw [h]
  simp only [ref_Ints_e0]
  rfl
def ref_Ints_F (nf : Nat) (x : denPs [.val (.sl (.int .i64)) (.bor true false), .val (.sl (.int .i64)) (.bor true false)]) : Option (denL [(.bool, .bor false true)]) := ref_Ints_f nf x.1 x.2.1
def ref_Ints_C (nf : Nat) : Contract := ⟨[.val (.sl (.int .i64)) (.bor true false), .val (.sl (.int .i64)) (.bor true false)], [(.bool, .bor false true)], ref_Ints_F nf, []⟩
theorem ref_Ints_ok : FnOK Try.prog 27 := ⟨Try.f27, codeOf Try.f27, Try.func27, by kernel_rfl, by kernel_rfl⟩
theorem ref_Ints_holds (nf : Nat) : Contract.Holds Try.prog 27 (ref_Ints_C nf) :=
  fn_holds (Φ := ref_Ints_phi nf) (keep := ref_Ints_keep) (n := nf) ⟨tabs.1, tabs.2, ctx_nil, mixed, bk_ok bkls rfl⟩ (fn := Try.f27) ⟨Try.func27, by kernel_rfl, by kernel_rfl, by kernel_rfl⟩ (fun x => ref_Ints_eq nf x.1 x.2.1)

/-! codemason codemasonref.Lists -/
def ref_Lists_phi (nf : Nat) : Nat → Option Contract := lookC [(27, ref_Ints_C nf)]
def ref_Lists_keep : Nat → List Nat := lookK [(0, [0, 1, 5])]
def ref_Lists_b0 (nf : Nat) (a : List (List Int)) (b : List (List Int)) (g0 : Int → Option (Bool × Unit)) (i : Int) : Option (Bool × Unit) :=
  bif decide (i < (↑a.length : Int)) then
    bif inb i a.length then
      bif inb i b.length then
        Option.bind (ref_Ints_f nf (a.getD i.toNat []) (b.getD i.toNat [])) fun r =>
        bif !r.fst then
          some ((false, ()))
        else
          g0 (IntKind.i64.wrap (i + 1))
      else
        none
    else
      none
  else
    some ((true, ()))
def ref_Lists_p (nf : Nat) (l0 : List (List Int) → List (List Int) → Int → Option (Bool × Unit)) (a : List (List Int)) (b : List (List Int)) : Option (Bool × Unit) :=
  bif (↑a.length : Int) != (↑b.length : Int) then
    some ((false, ()))
  else
    l0 a b 0
def ref_Lists_l0 (nf : Nat) (a : List (List Int)) (b : List (List Int)) : Nat → Int → Option (Bool × Unit)
  | 0, _ => none
  | fu + 1, i => ref_Lists_b0 nf  a b  (ref_Lists_l0 nf a b  fu) i
def ref_Lists_f (nf : Nat) (a : List (List Int)) (b : List (List Int)) : Option (Bool × Unit) := ref_Lists_p nf (fun p0 p1 v0 => ref_Lists_l0 nf p0 p1 nf v0) a b
noncomputable def ref_Lists_L0 (nf : Nat) : LC (Bool × Unit) := theL (findL tab (ref_Lists_phi nf) (fun _ F => iter nf F) ref_Lists_keep 0 0 (codeOf Try.f22) (fin tab [(Ty.bool, Md.bor false true)] (resL ([]) Try.f22)) (fun _ _ => none) (fin tab [(Ty.bool, Md.bor false true)] (resL ([]) Try.f22)))
def ref_Lists_m0 (a : List (List Int)) (b : List (List Int)) (i : Int) : St := ⟨fresh, [(0, AV.v (Ty.int IntKind.i64).sl.sl (Md.bor true false) a), (1, AV.v (Ty.int IntKind.i64).sl.sl (Md.bor true false) b), (5, AV.v (Ty.int IntKind.i64) (Md.bor false true) i)]⟩
theorem ref_Lists_h0 (nf : Nat)  (a : List (List Int)) (b : List (List Int)) (fu : Nat) (i : Int) : iter (fu + 1) (LC.F tab (ref_Lists_phi nf) (fun _ F => iter nf F) ref_Lists_keep 0 (ref_Lists_L0 nf )) (ref_Lists_m0 a b i) = ref_Lists_b0 nf  a b  (fun i => iter fu (LC.F tab (ref_Lists_phi nf) (fun _ F => iter nf F) ref_Lists_keep 0 (ref_Lists_L0 nf )) (ref_Lists_m0 a b i)) i := by kernel_rfl
theorem ref_Lists_e0 (nf : Nat)  (a : List (List Int)) (b : List (List Int)) : ∀ (fu : Nat) (i : Int), iter fu (LC.F tab (ref_Lists_phi nf) (fun _ F => iter nf F) ref_Lists_keep 0 (ref_Lists_L0 nf )) (ref_Lists_m0 a b i) = ref_Lists_l0 nf a b  fu i := by
  intro fu
  induction fu with
  | zero => intros; rfl
  | succ fu ih =>
    intro i
    rw [ref_Lists_h0 nf  a b fu i]
    simp only [ih]
    rfl
theorem ref_Lists_eq (nf : Nat) (a : List (List Int)) (b : List (List Int)) : runF tab (ref_Lists_phi nf) ref_Lists_keep nf [PT.val (Ty.int IntKind.i64).sl.sl (Md.bor true false), PT.val (Ty.int IntKind.i64).sl.sl (Md.bor true false)] [(Ty.bool, Md.bor false true)] (resL ([]) Try.f22) (codeOf Try.f22) ⟨a, b, ()⟩ = ref_Lists_f nf a b := by
  have h : runF tab (ref_Lists_phi nf) ref_Lists_keep nf [PT.val (Ty.int IntKind.i64).sl.sl (Md.bor true false), PT.val (Ty.int IntKind.i64).sl.sl (Md.bor true false)] [(Ty.bool, Md.bor false true)] (resL ([]) Try.f22) (codeOf Try.f22) ⟨a, b, ()⟩ = ref_Lists_p nf (fun p0 p1 v0 => iter nf (LC.F tab (ref_Lists_phi nf) (fun _ F => iter nf F) ref_Lists_keep 0 (ref_Lists_L0 nf)) (ref_Lists_m0 p0 p1 v0)) a b := by kernel_rfl
  rw [h]
  simp only [ref_Lists_e0]
  rfl
def ref_Lists_F (nf : Nat) (x : denPs [.val (.sl (.sl (.int .i64))) (.bor true false), .val (.sl (.sl (.int .i64))) (.bor true false)]) : Option (denL [(.bool, .bor false true)]) := ref_Lists_f nf x.1 x.2.1
def ref_Lists_C (nf : Nat) : Contract := ⟨[.val (.sl (.sl (.int .i64))) (.bor true false), .val (.sl (.sl (.int .i64))) (.bor true false)], [(.bool, .bor false true)], ref_Lists_F nf, []⟩
theorem ref_Lists_ok : FnOK Try.prog 22 := ⟨Try.f22, codeOf Try.f22, Try.func22, by kernel_rfl, by kernel_rfl⟩
theorem ref_Lists_holds (nf : Nat) : Contract.Holds Try.prog 22 (ref_Lists_C nf) :=
  fn_holds (Φ := ref_Lists_phi nf) (keep := ref_Lists_keep) (n := nf) ⟨tabs.1, tabs.2, (ctx_cons ref_Ints_ok (ref_Ints_holds nf) ctx_nil), mixed, bk_ok bkls rfl⟩ (fn := Try.f22) ⟨Try.func22, by kernel_rfl, by kernel_rfl, by kernel_rfl⟩ (fun x => ref_Lists_eq nf x.1 x.2.1)
end
end Go.Proofs.Ytokjogplnoeicaa.S
