/- The functions of the code, as plain functions, and the theorems that say so: made by a program of this proof's own. -/
import Derived.Test.YtokjogplnoeicaaAbCheck
import Derived.Test.YtokjogplnoeicaaChecked
namespace Go.Proofs.Ytokjogplnoeicaa.S
open Go Go.Ab
noncomputable section
def bkl : List (Nat × Bk) := [(77, .mk 121 81), (121, .gen 81)]
def tab : Tab := ⟨lookT [(2, .int .i64), (3, .int .i64), (4, .bool), (5, .int .u8), (6, .int .u8), (7, .pair (.int .i64) (.pair (.int .i64) (.pair (.bool) (.pair (.int .u8) (.unit))))), (8, .pair (.int .i64) (.pair (.int .i64) (.pair (.bool) (.pair (.int .u8) (.unit))))), (12, .int .u64), (21, .int .i32), (22, .sl (.pair (.sl (.pair (.int .i64) (.pair (.int .i64) (.pair (.int .i64) (.pair (.int .i64) (.pair (.int .i64) (.unit))))))) (.pair (.int .i64) (.pair (.int .i64) (.pair (.int .i64) (.unit)))))), (23, .int .i64), (26, .sl (.sl (.int .i64))), (31, .sl (.int .i64)), (39, .int .u32), (40, .sl (.int .u32)), (46, .pair (.int .i64) (.pair (.int .i64) (.unit))), (47, .pair (.int .i64) (.pair (.int .i64) (.unit))), (58, .sl (.pair (.int .i64) (.pair (.int .i64) (.unit)))), (59, .sl (.sl (.pair (.int .i64) (.pair (.int .i64) (.unit))))), (62, .pair (.int .i64) (.pair (.int .i64) (.unit))), (63, .pair (.int .i64) (.pair (.int .i64) (.unit))), (81, .sl (.pair (.int .i64) (.pair (.int .i64) (.pair (.int .i64) (.pair (.int .i64) (.pair (.int .i64) (.unit))))))), (82, .pair (.sl (.pair (.int .i64) (.pair (.int .i64) (.pair (.int .i64) (.pair (.int .i64) (.pair (.int .i64) (.unit))))))) (.pair (.int .i64) (.pair (.int .i64) (.pair (.int .i64) (.unit))))), (83, .pair (.sl (.pair (.int .i64) (.pair (.int .i64) (.pair (.int .i64) (.pair (.int .i64) (.pair (.int .i64) (.unit))))))) (.pair (.int .i64) (.pair (.int .i64) (.pair (.int .i64) (.unit))))), (86, .sl (.sl (.bool))), (91, .sl (.bool)), (92, .sl (.int .u8)), (97, .pair (.int .i64) (.pair (.int .i64) (.pair (.int .i64) (.pair (.int .i64) (.pair (.int .i64) (.unit)))))), (98, .pair (.int .i64) (.pair (.int .i64) (.pair (.int .i64) (.pair (.int .i64) (.pair (.int .i64) (.unit)))))), (105, .int .u64), (106, .sl (.pair (.int .i64) (.pair (.int .i64) (.unit)))), (126, .pair (.sl (.sl (.pair (.int .i64) (.pair (.int .i64) (.unit))))) (.pair (.bool) (.unit))), (127, .pair (.sl (.sl (.pair (.int .i64) (.pair (.int .i64) (.unit))))) (.pair (.bool) (.unit))), (139, .pair (.sl (.pair (.sl (.pair (.int .i64) (.pair (.int .i64) (.pair (.int .i64) (.pair (.int .i64) (.pair (.int .i64) (.unit))))))) (.pair (.int .i64) (.pair (.int .i64) (.pair (.int .i64) (.unit)))))) (.unit)), (140, .pair (.sl (.pair (.sl (.pair (.int .i64) (.pair (.int .i64) (.pair (.int .i64) (.pair (.int .i64) (.pair (.int .i64) (.unit))))))) (.pair (.int .i64) (.pair (.int .i64) (.pair (.int .i64) (.unit)))))) (.unit)), (145, .pair (.sl (.pair (.sl (.pair (.int .i64) (.pair (.int .i64) (.pair (.int .i64) (.pair (.int .i64) (.pair (.int .i64) (.unit))))))) (.pair (.int .i64) (.pair (.int .i64) (.pair (.int .i64) (.unit)))))) (.pair (.sl (.sl (.int .i64))) (.pair (.int .u32) (.pair (.sl (.sl (.bool))) (.pair (.int .u32) (.pair (.sl (.int .u32)) (.unit))))))), (146, .pair (.sl (.pair (.sl (.pair (.int .i64) (.pair (.int .i64) (.pair (.int .i64) (.pair (.int .i64) (.pair (.int .i64) (.unit))))))) (.pair (.int .i64) (.pair (.int .i64) (.pair (.int .i64) (.unit)))))) (.pair (.sl (.sl (.int .i64))) (.pair (.int .u32) (.pair (.sl (.sl (.bool))) (.pair (.int .u32) (.pair (.sl (.int .u32)) (.unit))))))), (155, .mp (.int .i64) (.int .i64)), (189, .int .u8), (190, .int .u8), (193, .int .i32), (194, .int .i32)], lookM [(2, .bor false true), (3, .bor false true), (4, .bor false true), (5, .bor false true), (6, .bor false true), (7, .bor false true), (8, .bor false true), (12, .bor false true), (21, .bor false true), (22, .own false (.bor false false)), (23, .bor false true), (26, .own false (.bor false false)), (31, .own false (.bor false false)), (39, .bor false true), (40, .own false (.bor false false)), (46, .bor false true), (47, .bor false true), (58, .own false (.bor false false)), (59, .own false (.bor false false)), (62, .bor false true), (63, .bor false true), (81, .own false (.bor false false)), (82, .bor true false), (83, .bor true false), (86, .own false (.bor false false)), (91, .own false (.bor false false)), (92, .own false (.bor false false)), (97, .bor false true), (98, .bor false true), (105, .bor false true), (106, .own false (.bor false false)), (126, .bor true false), (127, .pair (.own false (.own true (.bor false false))) (.pair (.bor false true) (.bor false false))), (139, .bor true false), (140, .pair (.own false (.pair (.own true (.bor false true)) (.bor false true))) (.bor false false)), (145, .bor true false), (146, .pair (.bor false false) (.pair (.bor false false) (.pair (.bor false true) (.pair (.own false (.own false (.bor false true))) (.pair (.bor false true) (.pair (.own false (.bor false false)) (.bor false false))))))), (155, .own false (.bor false false)), (189, .bor false true), (190, .bor false true), (193, .bor false true), (194, .bor false true)], hasT [185], hasT [9, 10, 11], fun _ => none, lookB bkl⟩
theorem bkls : BkL Try.prog bkl := by
  intro x hx
  simp only [bkl, List.mem_cons, List.not_mem_nil, or_false] at hx
  rcases hx with rfl | rfl
  · exact ⟨⟨Try.f77, codeOf Try.f77, Try.func77, by kernel_rfl, by kernel_rfl⟩, Try.f77, 112, 111, Try.func77, by kernel_rfl, by kernel_rfl, by kernel_rfl⟩
  · exact ⟨⟨Try.f121, codeOf Try.f121, Try.func121, by kernel_rfl, by kernel_rfl⟩, Try.f121, 3, 98, 4, 160, Try.func121, by kernel_rfl, by kernel_rfl, by kernel_rfl, by kernel_rfl⟩
theorem tabs : TabOK Try.prog tab ∧ EqOK Try.prog tab := tab_ok (by kernel_rfl) (by kernel_rfl)
theorem mixed : Try.prog.follows .mixedOrders = true := by kernel_rfl

/-! codemason block.step 1 -/
def block_step_1_phi (nf : Nat) : Nat → Option Contract := lookC []
def block_step_1_keep : Nat → List Nat := lookK []
def block_step_1_p (nf : Nat)  (i : Int) (c1 : Int) : Option (Bool × Unit) :=
  bif decide (i ≥ 0) then
    some ((decide (i < c1), ()))
  else
    some ((false, ()))
def block_step_1_f (nf : Nat) (i : Int) (c1 : Int) : Option (Bool × Unit) := block_step_1_p nf  i c1
theorem block_step_1_eq (nf : Nat) (i : Int) (c1 : Int) : runF tab (block_step_1_phi nf) block_step_1_keep nf [PT.val (Ty.int IntKind.i64) (Md.bor true false), PT.ptr (Ty.int IntKind.i64) (Md.bor true false)] [(Ty.bool, Md.bor false true)] (resL ([]) Try.f117) (codeOf Try.f117) ⟨i, c1, ()⟩ = block_step_1_f nf i c1 := by
  have h : runF tab (block_step_1_phi nf) block_step_1_keep nf [PT.val (Ty.int IntKind.i64) (Md.bor true false), PT.ptr (Ty.int IntKind.i64) (Md.bor true false)] [(Ty.bool, Md.bor false true)] (resL ([]) Try.f117) (codeOf Try.f117) ⟨i, c1, ()⟩ = block_step_1_p nf  i c1 := by kernel_rfl
  exact h
def block_step_1_F (nf : Nat) (x : denPs [.val (.int .i64) (.bor true false), .ptr (.int .i64) (.bor true false)]) : Option (denL [(.bool, .bor false true)]) := block_step_1_f nf x.1 x.2.1
def block_step_1_C (nf : Nat) : Contract := ⟨[.val (.int .i64) (.bor true false), .ptr (.int .i64) (.bor true false)], [(.bool, .bor false true)], block_step_1_F nf, []⟩
theorem block_step_1_ok : FnOK Try.prog 117 := ⟨Try.f117, codeOf Try.f117, Try.func117, by kernel_rfl, by kernel_rfl⟩
theorem block_step_1_holds (nf : Nat) : Contract.Holds Try.prog 117 (block_step_1_C nf) :=
  fn_holds (Φ := block_step_1_phi nf) (keep := block_step_1_keep) (n := nf) ⟨tabs.1, tabs.2, ctx_nil, mixed, bk_ok bkls rfl⟩ (fn := Try.f117) ⟨Try.func117, by kernel_rfl, by kernel_rfl, by kernel_rfl⟩ (fun x => block_step_1_eq nf x.1 x.2.1)

/-! codemason block.step -/
def block_step_phi (nf : Nat) : Nat → Option Contract := lookC [(117, block_step_1_C nf)]
def block_step_keep : Nat → List Nat := lookK []
def block_step_p (nf : Nat)  (vars : Int) (s : Int × Int × Int × Int × Int × Unit) : Option (Int × Unit) :=
  bif decide (s.fst < 1) then
    some ((6, ()))
  else
    bif decide (s.fst > 6) then
      some ((6, ()))
    else
      bif s.fst == 1 then
        bif decide (s.snd.snd.snd.snd.fst < 0) then
          some ((4, ()))
        else
          bif decide (s.snd.snd.snd.snd.fst > 255) then
            some ((4, ()))
          else
            bif s.fst == 2 then
              Option.bind (block_step_1_f nf s.snd.snd.snd.snd.fst vars) fun r =>
              bif !r.fst then
                some ((4, ()))
              else
                Option.bind (block_step_1_f nf s.snd.fst vars) fun r2 =>
                bif !r2.fst then
                  some ((2, ()))
                else
                  bif decide (s.fst > 2) then
                    Option.bind (block_step_1_f nf s.snd.snd.fst vars) fun r3 =>
                    bif !r3.fst then
                      some ((2, ()))
                    else
                      Option.bind (block_step_1_f nf s.snd.snd.snd.fst vars) fun r4 =>
                      bif !r4.fst then
                        some ((2, ()))
                      else
                        some ((0, ()))
                  else
                    some ((0, ()))
            else
              Option.bind (block_step_1_f nf s.snd.fst vars) fun r5 =>
              bif !r5.fst then
                some ((2, ()))
              else
                bif decide (s.fst > 2) then
                  Option.bind (block_step_1_f nf s.snd.snd.fst vars) fun r6 =>
                  bif !r6.fst then
                    some ((2, ()))
                  else
                    Option.bind (block_step_1_f nf s.snd.snd.snd.fst vars) fun r7 =>
                    bif !r7.fst then
                      some ((2, ()))
                    else
                      some ((0, ()))
                else
                  some ((0, ()))
      else
        bif s.fst == 2 then
          Option.bind (block_step_1_f nf s.snd.snd.snd.snd.fst vars) fun r8 =>
          bif !r8.fst then
            some ((4, ()))
          else
            Option.bind (block_step_1_f nf s.snd.fst vars) fun r9 =>
            bif !r9.fst then
              some ((2, ()))
            else
              bif decide (s.fst > 2) then
                Option.bind (block_step_1_f nf s.snd.snd.fst vars) fun r10 =>
                bif !r10.fst then
                  some ((2, ()))
                else
                  Option.bind (block_step_1_f nf s.snd.snd.snd.fst vars) fun r11 =>
                  bif !r11.fst then
                    some ((2, ()))
                  else
                    some ((0, ()))
              else
                some ((0, ()))
        else
          Option.bind (block_step_1_f nf s.snd.fst vars) fun r12 =>
          bif !r12.fst then
            some ((2, ()))
          else
            bif decide (s.fst > 2) then
              Option.bind (block_step_1_f nf s.snd.snd.fst vars) fun r13 =>
              bif !r13.fst then
                some ((2, ()))
              else
                Option.bind (block_step_1_f nf s.snd.snd.snd.fst vars) fun r14 =>
                bif !r14.fst then
                  some ((2, ()))
                else
                  some ((0, ()))
            else
              some ((0, ()))
def block_step_f (nf : Nat) (vars : Int) (s : Int × Int × Int × Int × Int × Unit) : Option (Int × Unit) := block_step_p nf  vars s
theorem block_step_eq (nf : Nat) (vars : Int) (s : Int × Int × Int × Int × Int × Unit) : runF tab (block_step_phi nf) block_step_keep nf [PT.val (Ty.int IntKind.i64) (Md.bor true false), PT.val ((Ty.int IntKind.i64).pair ((Ty.int IntKind.i64).pair ((Ty.int IntKind.i64).pair ((Ty.int IntKind.i64).pair ((Ty.int IntKind.i64).pair Ty.unit))))) (Md.bor true false)] [(Ty.int IntKind.i64, Md.bor false true)] (resL ([]) Try.f64) (codeOf Try.f64) ⟨vars, s, ()⟩ = block_step_f nf vars s := by
  have h : runF tab (block_step_phi nf) block_step_keep nf [PT.val (Ty.int IntKind.i64) (Md.bor true false), PT.val ((Ty.int IntKind.i64).pair ((Ty.int IntKind.i64).pair ((Ty.int IntKind.i64).pair ((Ty.int IntKind.i64).pair ((Ty.int IntKind.i64).pair Ty.unit))))) (Md.bor true false)] [(Ty.int IntKind.i64, Md.bor false true)] (resL ([]) Try.f64) (codeOf Try.f64) ⟨vars, s, ()⟩ = block_step_p nf  vars s := by kernel_rfl
  exact h
def block_step_F (nf : Nat) (x : denPs [.val (.int .i64) (.bor true false), .val (.pair (.int .i64) (.pair (.int .i64) (.pair (.int .i64) (.pair (.int .i64) (.pair (.int .i64) (.unit)))))) (.bor true false)]) : Option (denL [(.int .i64, .bor false true)]) := block_step_f nf x.1 x.2.1
def block_step_C (nf : Nat) : Contract := ⟨[.val (.int .i64) (.bor true false), .val (.pair (.int .i64) (.pair (.int .i64) (.pair (.int .i64) (.pair (.int .i64) (.pair (.int .i64) (.unit)))))) (.bor true false)], [(.int .i64, .bor false true)], block_step_F nf, []⟩
theorem block_step_ok : FnOK Try.prog 64 := ⟨Try.f64, codeOf Try.f64, Try.func64, by kernel_rfl, by kernel_rfl⟩
theorem block_step_holds (nf : Nat) : Contract.Holds Try.prog 64 (block_step_C nf) :=
  fn_holds (Φ := block_step_phi nf) (keep := block_step_keep) (n := nf) ⟨tabs.1, tabs.2, (ctx_cons block_step_1_ok (block_step_1_holds nf) ctx_nil), mixed, bk_ok bkls rfl⟩ (fn := Try.f64) ⟨Try.func64, by kernel_rfl, by kernel_rfl, by kernel_rfl⟩ (fun x => block_step_eq nf x.1 x.2.1)

/-! codemason block.Check 1 -/
def block_Check_1_phi (nf : Nat) : Nat → Option Contract := lookC []
def block_Check_1_keep : Nat → List Nat := lookK []
def block_Check_1_p (nf : Nat)  (i : Int) (c1 : List (List (Int × Int × Int × Int × Int × Unit) × Int × Int × Int × Unit)) : Option (Bool × Unit) :=
  bif decide (i ≥ 0) then
    some ((decide (i < (↑c1.length : Int)), ()))
  else
    some ((false, ()))
def block_Check_1_f (nf : Nat) (i : Int) (c1 : List (List (Int × Int × Int × Int × Int × Unit) × Int × Int × Int × Unit)) : Option (Bool × Unit) := block_Check_1_p nf  i c1
theorem block_Check_1_eq (nf : Nat) (i : Int) (c1 : List (List (Int × Int × Int × Int × Int × Unit) × Int × Int × Int × Unit)) : runF tab (block_Check_1_phi nf) block_Check_1_keep nf [PT.val (Ty.int IntKind.i64) (Md.bor true false), PT.ptr (((Ty.int IntKind.i64).pair ((Ty.int IntKind.i64).pair ((Ty.int IntKind.i64).pair ((Ty.int IntKind.i64).pair ((Ty.int IntKind.i64).pair Ty.unit))))).sl.pair ((Ty.int IntKind.i64).pair ((Ty.int IntKind.i64).pair ((Ty.int IntKind.i64).pair Ty.unit)))).sl (Md.bor true false)] [(Ty.bool, Md.bor false true)] (resL ([]) Try.f65) (codeOf Try.f65) ⟨i, c1, ()⟩ = block_Check_1_f nf i c1 := by
  have h : runF tab (block_Check_1_phi nf) block_Check_1_keep nf [PT.val (Ty.int IntKind.i64) (Md.bor true false), PT.ptr (((Ty.int IntKind.i64).pair ((Ty.int IntKind.i64).pair ((Ty.int IntKind.i64).pair ((Ty.int IntKind.i64).pair ((Ty.int IntKind.i64).pair Ty.unit))))).sl.pair ((Ty.int IntKind.i64).pair ((Ty.int IntKind.i64).pair ((Ty.int IntKind.i64).pair Ty.unit)))).sl (Md.bor true false)] [(Ty.bool, Md.bor false true)] (resL ([]) Try.f65) (codeOf Try.f65) ⟨i, c1, ()⟩ = block_Check_1_p nf  i c1 := by kernel_rfl
  exact h
def block_Check_1_F (nf : Nat) (x : denPs [.val (.int .i64) (.bor true false), .ptr (.sl (.pair (.sl (.pair (.int .i64) (.pair (.int .i64) (.pair (.int .i64) (.pair (.int .i64) (.pair (.int .i64) (.unit))))))) (.pair (.int .i64) (.pair (.int .i64) (.pair (.int .i64) (.unit)))))) (.bor true false)]) : Option (denL [(.bool, .bor false true)]) := block_Check_1_f nf x.1 x.2.1
def block_Check_1_C (nf : Nat) : Contract := ⟨[.val (.int .i64) (.bor true false), .ptr (.sl (.pair (.sl (.pair (.int .i64) (.pair (.int .i64) (.pair (.int .i64) (.pair (.int .i64) (.pair (.int .i64) (.unit))))))) (.pair (.int .i64) (.pair (.int .i64) (.pair (.int .i64) (.unit)))))) (.bor true false)], [(.bool, .bor false true)], block_Check_1_F nf, []⟩
theorem block_Check_1_ok : FnOK Try.prog 65 := ⟨Try.f65, codeOf Try.f65, Try.func65, by kernel_rfl, by kernel_rfl⟩
theorem block_Check_1_holds (nf : Nat) : Contract.Holds Try.prog 65 (block_Check_1_C nf) :=
  fn_holds (Φ := block_Check_1_phi nf) (keep := block_Check_1_keep) (n := nf) ⟨tabs.1, tabs.2, ctx_nil, mixed, bk_ok bkls rfl⟩ (fn := Try.f65) ⟨Try.func65, by kernel_rfl, by kernel_rfl, by kernel_rfl⟩ (fun x => block_Check_1_eq nf x.1 x.2.1)

/-! codemason block.Check -/
def block_Check_phi (nf : Nat) : Nat → Option Contract := lookC [(64, block_step_C nf), (65, block_Check_1_C nf)]
def block_Check_keep : Nat → List Nat := lookK [(4, [0, 1, 3, 9, 46, 47, 48, 52, 53, 54, 55]), (2, [0, 1, 3, 46, 47, 48]), (0, [0, 1, 3, 5, 14, 15, 16])]
def block_Check_b0 (nf : Nat) (l2 : Int → List (List (Int × Int × Int × Int × Int × Unit) × Int × Int × Int × Unit) → List (List (Int × Int × Int × Int × Int × Unit) × Int × Int × Int × Unit) → List (List (Int × Int × Int × Int × Int × Unit) × Int × Int × Int × Unit) → Int → Option (Int × Unit)) (vars : Int) (p : List (List (Int × Int × Int × Int × Int × Unit) × Int × Int × Int × Unit)) (g0 : List (List (Int × Int × Int × Int × Int × Unit) × Int × Int × Int × Unit) → Int → Int → Option (Int × Unit)) (p2 : List (List (Int × Int × Int × Int × Int × Unit) × Int × Int × Int × Unit)) (many : Int) (t16 : Int) : Option (Int × Unit) :=
  bif decide (t16 < (↑p.length : Int)) then
    bif inb t16 p.length then
      g0 p2 (IntKind.i64.wrap (many + (↑(List.length (p.getD t16.toNat ([], 0, 0, 0, ())).fst) : Int))) (IntKind.i64.wrap (t16 + 1))
    else
      none
  else
    bif decide (vars < 1) then
      some ((1, ()))
    else
      bif decide (vars > 6) then
        some ((1, ()))
      else
        bif decide ((↑p2.length : Int) < 1) then
          some ((1, ()))
        else
          bif decide ((↑p2.length : Int) > 8) then
            some ((1, ()))
          else
            bif decide (many > 20) then
              some ((1, ()))
            else
              l2 vars p p2 p2 0
def block_Check_b2 (nf : Nat) (l4 : Int → List (List (Int × Int × Int × Int × Int × Unit) × Int × Int × Int × Unit) → List (List (Int × Int × Int × Int × Int × Unit) × Int × Int × Int × Unit) → Int → List (List (Int × Int × Int × Int × Int × Unit) × Int × Int × Int × Unit) → List (Int × Int × Int × Int × Int × Unit) × Int × Int × Int × Unit → Int → Option (Int × Unit)) (vars : Int) (p : List (List (Int × Int × Int × Int × Int × Unit) × Int × Int × Int × Unit)) (p2 : List (List (Int × Int × Int × Int × Int × Unit) × Int × Int × Int × Unit)) (g2 : List (List (Int × Int × Int × Int × Int × Unit) × Int × Int × Int × Unit) → Int → Option (Int × Unit)) (p3 : List (List (Int × Int × Int × Int × Int × Unit) × Int × Int × Int × Unit)) (t48 : Int) : Option (Int × Unit) :=
  bif decide (t48 < (↑p2.length : Int)) then
    bif inb t48 p2.length then
      l4 vars p p2 t48 p3 (p2.getD t48.toNat ([], 0, 0, 0, ())) 0
    else
      none
  else
    some ((0, ()))
def block_Check_b4 (nf : Nat) (vars : Int) (p : List (List (Int × Int × Int × Int × Int × Unit) × Int × Int × Int × Unit)) (p2 : List (List (Int × Int × Int × Int × Int × Unit) × Int × Int × Int × Unit)) (t48 : Int) (g2 : List (List (Int × Int × Int × Int × Int × Unit) × Int × Int × Int × Unit) → Int → Option (Int × Unit)) (g4 : List (List (Int × Int × Int × Int × Int × Unit) × Int × Int × Int × Unit) → List (Int × Int × Int × Int × Int × Unit) × Int × Int × Int × Unit → Int → Option (Int × Unit)) (p4 : List (List (Int × Int × Int × Int × Int × Unit) × Int × Int × Int × Unit)) (b : List (Int × Int × Int × Int × Int × Unit) × Int × Int × Int × Unit) (t55 : Int) : Option (Int × Unit) :=
  bif decide (t55 < (↑(List.length (p2.getD t48.toNat ([], 0, 0, 0, ())).fst) : Int)) then
    bif inb t55 (List.length (p2.getD t48.toNat ([], 0, 0, 0, ())).fst) then
      Option.bind (block_step_f nf vars (List.getD (p2.getD t48.toNat ([], 0, 0, 0, ())).fst t55.toNat (0, 0, 0, 0, 0, ()))) fun r =>
      bif r.fst != 0 then
        some ((r.fst, ()))
      else
        g4 p4 b (IntKind.i64.wrap (t55 + 1))
    else
      none
  else
    bif decide (b.snd.fst < (-1)) then
      some ((2, ()))
    else
      bif decide (b.snd.fst ≥ vars) then
        some ((2, ()))
      else
        Option.bind (block_Check_1_f nf b.snd.snd.fst p4) fun r2 =>
        bif !r2.fst then
          bif b.snd.snd.fst != (-1) then
            some ((3, ()))
          else
            bif decide (b.snd.fst ≥ 0) then
              some ((3, ()))
            else
              bif decide (b.snd.fst ≥ 0) then
                Option.bind (block_Check_1_f nf b.snd.snd.snd.fst p4) fun r3 =>
                bif !r3.fst then
                  some ((3, ()))
                else
                  g2 p4 (IntKind.i64.wrap (t48 + 1))
              else
                g2 p4 (IntKind.i64.wrap (t48 + 1))
        else
          bif decide (b.snd.fst ≥ 0) then
            Option.bind (block_Check_1_f nf b.snd.snd.snd.fst p4) fun r4 =>
            bif !r4.fst then
              some ((3, ()))
            else
              g2 p4 (IntKind.i64.wrap (t48 + 1))
          else
            g2 p4 (IntKind.i64.wrap (t48 + 1))
def block_Check_p (nf : Nat) (l0 : Int → List (List (Int × Int × Int × Int × Int × Unit) × Int × Int × Int × Unit) → List (List (Int × Int × Int × Int × Int × Unit) × Int × Int × Int × Unit) → Int → Int → Option (Int × Unit)) (vars : Int) (p : List (List (Int × Int × Int × Int × Int × Unit) × Int × Int × Int × Unit)) : Option (Int × Unit) :=
  l0 vars p p 0 0
def block_Check_l4 (nf : Nat) (vars : Int) (p : List (List (Int × Int × Int × Int × Int × Unit) × Int × Int × Int × Unit)) (p2 : List (List (Int × Int × Int × Int × Int × Unit) × Int × Int × Int × Unit)) (t48 : Int) (g2 : List (List (Int × Int × Int × Int × Int × Unit) × Int × Int × Int × Unit) → Int → Option (Int × Unit)) : Nat → List (List (Int × Int × Int × Int × Int × Unit) × Int × Int × Int × Unit) → List (Int × Int × Int × Int × Int × Unit) × Int × Int × Int × Unit → Int → Option (Int × Unit)
  | 0, _, _, _ => none
  | fu + 1, p4, b, t55 => block_Check_b4 nf  vars p p2 t48 g2 (block_Check_l4 nf vars p p2 t48 g2 fu) p4 b t55
def block_Check_l2 (nf : Nat) (vars : Int) (p : List (List (Int × Int × Int × Int × Int × Unit) × Int × Int × Int × Unit)) (p2 : List (List (Int × Int × Int × Int × Int × Unit) × Int × Int × Int × Unit)) : Nat → List (List (Int × Int × Int × Int × Int × Unit) × Int × Int × Int × Unit) → Int → Option (Int × Unit)
  | 0, _, _ => none
  | fu + 1, p3, t48 => block_Check_b2 nf (fun _ _ _ p3 v0 v1 v2 => block_Check_l4 nf vars p p2 p3 (fun p3 t48 => block_Check_l2 nf vars p p2  fu p3 t48) nf v0 v1 v2) vars p p2  (block_Check_l2 nf vars p p2  fu) p3 t48
def block_Check_l0 (nf : Nat) (vars : Int) (p : List (List (Int × Int × Int × Int × Int × Unit) × Int × Int × Int × Unit)) : Nat → List (List (Int × Int × Int × Int × Int × Unit) × Int × Int × Int × Unit) → Int → Int → Option (Int × Unit)
  | 0, _, _, _ => none
  | fu + 1, p2, many, t16 => block_Check_b0 nf (fun _ _ p2 v0 v1 => block_Check_l2 nf vars p p2  nf v0 v1) vars p  (block_Check_l0 nf vars p  fu) p2 many t16
def block_Check_f (nf : Nat) (vars : Int) (p : List (List (Int × Int × Int × Int × Int × Unit) × Int × Int × Int × Unit)) : Option (Int × Unit) := block_Check_p nf (fun p0 p1 v0 v1 v2 => block_Check_l0 nf p0 p1 nf v0 v1 v2) vars p
noncomputable def block_Check_L0 (nf : Nat) : LC (Int × Unit) := theL (findL tab (block_Check_phi nf) (fun _ F => iter nf F) block_Check_keep 0 0 (codeOf Try.f19) (fin tab [(Ty.int IntKind.i64, Md.bor false true)] (resL ([]) Try.f19)) (fun _ _ => none) (fin tab [(Ty.int IntKind.i64, Md.bor false true)] (resL ([]) Try.f19)))
def block_Check_m0 (vars : Int) (p : List (List (Int × Int × Int × Int × Int × Unit) × Int × Int × Int × Unit)) (p2 : List (List (Int × Int × Int × Int × Int × Unit) × Int × Int × Int × Unit)) (many : Int) (t16 : Int) : St := ⟨fresh, [(0, AV.v (Ty.int IntKind.i64) (Md.bor false true) vars), (1, AV.v (((Ty.int IntKind.i64).pair ((Ty.int IntKind.i64).pair ((Ty.int IntKind.i64).pair ((Ty.int IntKind.i64).pair ((Ty.int IntKind.i64).pair Ty.unit))))).sl.pair ((Ty.int IntKind.i64).pair ((Ty.int IntKind.i64).pair ((Ty.int IntKind.i64).pair Ty.unit)))).sl (Md.bor true false) p), (3, AV.box 3 500003 (((Ty.int IntKind.i64).pair ((Ty.int IntKind.i64).pair ((Ty.int IntKind.i64).pair ((Ty.int IntKind.i64).pair ((Ty.int IntKind.i64).pair Ty.unit))))).sl.pair ((Ty.int IntKind.i64).pair ((Ty.int IntKind.i64).pair ((Ty.int IntKind.i64).pair Ty.unit)))).sl (Md.bor true false) p2), (5, AV.v (Ty.int IntKind.i64) (Md.bor false true) many), (14, AV.v (((Ty.int IntKind.i64).pair ((Ty.int IntKind.i64).pair ((Ty.int IntKind.i64).pair ((Ty.int IntKind.i64).pair ((Ty.int IntKind.i64).pair Ty.unit))))).sl.pair ((Ty.int IntKind.i64).pair ((Ty.int IntKind.i64).pair ((Ty.int IntKind.i64).pair Ty.unit)))).sl (Md.bor true false) p), (15, AV.v (Ty.int IntKind.i64) (Md.bor false true) (↑p.length : Int)), (16, AV.v (Ty.int IntKind.i64) (Md.bor false true) t16)]⟩
noncomputable def block_Check_L2 (nf : Nat) : LC (Int × Unit) := theL (findL tab (block_Check_phi nf) (fun _ F => iter nf F) block_Check_keep 2 0 (codeOf Try.f19) (fin tab [(Ty.int IntKind.i64, Md.bor false true)] (resL ([]) Try.f19)) (fun _ _ => none) (fin tab [(Ty.int IntKind.i64, Md.bor false true)] (resL ([]) Try.f19)))
def block_Check_m2 (vars : Int) (p : List (List (Int × Int × Int × Int × Int × Unit) × Int × Int × Int × Unit)) (p2 : List (List (Int × Int × Int × Int × Int × Unit) × Int × Int × Int × Unit)) (p3 : List (List (Int × Int × Int × Int × Int × Unit) × Int × Int × Int × Unit)) (t48 : Int) : St := ⟨fresh, [(0, AV.v (Ty.int IntKind.i64) (Md.bor false true) vars), (1, AV.v (((Ty.int IntKind.i64).pair ((Ty.int IntKind.i64).pair ((Ty.int IntKind.i64).pair ((Ty.int IntKind.i64).pair ((Ty.int IntKind.i64).pair Ty.unit))))).sl.pair ((Ty.int IntKind.i64).pair ((Ty.int IntKind.i64).pair ((Ty.int IntKind.i64).pair Ty.unit)))).sl (Md.bor true false) p), (3, AV.box 3 500003 (((Ty.int IntKind.i64).pair ((Ty.int IntKind.i64).pair ((Ty.int IntKind.i64).pair ((Ty.int IntKind.i64).pair ((Ty.int IntKind.i64).pair Ty.unit))))).sl.pair ((Ty.int IntKind.i64).pair ((Ty.int IntKind.i64).pair ((Ty.int IntKind.i64).pair Ty.unit)))).sl (Md.bor true false) p3), (46, AV.v (((Ty.int IntKind.i64).pair ((Ty.int IntKind.i64).pair ((Ty.int IntKind.i64).pair ((Ty.int IntKind.i64).pair ((Ty.int IntKind.i64).pair Ty.unit))))).sl.pair ((Ty.int IntKind.i64).pair ((Ty.int IntKind.i64).pair ((Ty.int IntKind.i64).pair Ty.unit)))).sl (Md.bor true false) p2), (47, AV.v (Ty.int IntKind.i64) (Md.bor false true) (↑p2.length : Int)), (48, AV.v (Ty.int IntKind.i64) (Md.bor false true) t48)]⟩
noncomputable def block_Check_L4 (nf : Nat) (G2 : St → Option (Int × Unit)) : LC (Int × Unit) := theL (findL tab (block_Check_phi nf) (fun _ F => iter nf F) block_Check_keep 4 2 (block_Check_L2 nf ).c (fun st => norm (block_Check_keep 2) st G2) (block_Check_L2 nf ).Kx (block_Check_L2 nf ).Kr)
def block_Check_m4 (vars : Int) (p : List (List (Int × Int × Int × Int × Int × Unit) × Int × Int × Int × Unit)) (p2 : List (List (Int × Int × Int × Int × Int × Unit) × Int × Int × Int × Unit)) (t48 : Int) (p4 : List (List (Int × Int × Int × Int × Int × Unit) × Int × Int × Int × Unit)) (b : List (Int × Int × Int × Int × Int × Unit) × Int × Int × Int × Unit) (t55 : Int) : St := ⟨fresh, [(0, AV.v (Ty.int IntKind.i64) (Md.bor false true) vars), (1, AV.v (((Ty.int IntKind.i64).pair ((Ty.int IntKind.i64).pair ((Ty.int IntKind.i64).pair ((Ty.int IntKind.i64).pair ((Ty.int IntKind.i64).pair Ty.unit))))).sl.pair ((Ty.int IntKind.i64).pair ((Ty.int IntKind.i64).pair ((Ty.int IntKind.i64).pair Ty.unit)))).sl (Md.bor true false) p), (3, AV.box 3 500003 (((Ty.int IntKind.i64).pair ((Ty.int IntKind.i64).pair ((Ty.int IntKind.i64).pair ((Ty.int IntKind.i64).pair ((Ty.int IntKind.i64).pair Ty.unit))))).sl.pair ((Ty.int IntKind.i64).pair ((Ty.int IntKind.i64).pair ((Ty.int IntKind.i64).pair Ty.unit)))).sl (Md.bor true false) p4), (9, AV.box 9 500009 (((Ty.int IntKind.i64).pair ((Ty.int IntKind.i64).pair ((Ty.int IntKind.i64).pair ((Ty.int IntKind.i64).pair ((Ty.int IntKind.i64).pair Ty.unit))))).sl.pair ((Ty.int IntKind.i64).pair ((Ty.int IntKind.i64).pair ((Ty.int IntKind.i64).pair Ty.unit)))) (Md.bor true false) b), (46, AV.v (((Ty.int IntKind.i64).pair ((Ty.int IntKind.i64).pair ((Ty.int IntKind.i64).pair ((Ty.int IntKind.i64).pair ((Ty.int IntKind.i64).pair Ty.unit))))).sl.pair ((Ty.int IntKind.i64).pair ((Ty.int IntKind.i64).pair ((Ty.int IntKind.i64).pair Ty.unit)))).sl (Md.bor true false) p2), (47, AV.v (Ty.int IntKind.i64) (Md.bor false true) (↑p2.length : Int)), (48, AV.v (Ty.int IntKind.i64) (Md.bor false true) t48), (52, AV.pl 9 9 [Stp.dr, Stp.fld 0]), (53, AV.v ((Ty.int IntKind.i64).pair ((Ty.int IntKind.i64).pair ((Ty.int IntKind.i64).pair ((Ty.int IntKind.i64).pair ((Ty.int IntKind.i64).pair Ty.unit))))).sl (Md.bor true false) (p2.getD t48.toNat ([], 0, 0, 0, ())).fst), (54, AV.v (Ty.int IntKind.i64) (Md.bor false true) (↑(List.length (p2.getD t48.toNat ([], 0, 0, 0, ())).fst) : Int)), (55, AV.v (Ty.int IntKind.i64) (Md.bor false true) t55)]⟩
theorem block_Check_h4 (nf : Nat) (G2 : St → Option (Int × Unit)) (vars : Int) (p : List (List (Int × Int × Int × Int × Int × Unit) × Int × Int × Int × Unit)) (p2 : List (List (Int × Int × Int × Int × Int × Unit) × Int × Int × Int × Unit)) (t48 : Int) (fu : Nat) (p4 : List (List (Int × Int × Int × Int × Int × Unit) × Int × Int × Int × Unit)) (b : List (Int × Int × Int × Int × Int × Unit) × Int × Int × Int × Unit) (t55 : Int) : iter (fu + 1) (LC.F tab (block_Check_phi nf) (fun _ F => iter nf F) block_Check_keep 4 (block_Check_L4 nf G2)) (block_Check_m4 vars p p2 t48 p4 b t55) = block_Check_b4 nf  vars p p2 t48 (fun p3 t48 => G2 (block_Check_m2 vars p p2 p3 t48)) (fun p4 b t55 => iter fu (LC.F tab (block_Check_phi nf) (fun _ F => iter nf F) block_Check_keep 4 (block_Check_L4 nf G2)) (block_Check_m4 vars p p2 t48 p4 b t55)) p4 b t55 := by kernel_rfl
theorem block_Check_e4 (nf : Nat) (G2 : St → Option (Int × Unit)) (vars : Int) (p : List (List (Int × Int × Int × Int × Int × Unit) × Int × Int × Int × Unit)) (p2 : List (List (Int × Int × Int × Int × Int × Unit) × Int × Int × Int × Unit)) (t48 : Int) : ∀ (fu : Nat) (p4 : List (List (Int × Int × Int × Int × Int × Unit) × Int × Int × Int × Unit)) (b : List (Int × Int × Int × Int × Int × Unit) × Int × Int × Int × Unit) (t55 : Int), iter fu (LC.F tab (block_Check_phi nf) (fun _ F => iter nf F) block_Check_keep 4 (block_Check_L4 nf G2)) (block_Check_m4 vars p p2 t48 p4 b t55) = block_Check_l4 nf vars p p2 t48 (fun p3 t48 => G2 (block_Check_m2 vars p p2 p3 t48)) fu p4 b t55 := by
  intro fu
  induction fu with
  | zero => intros; rfl
  | succ fu ih =>
    intro p4 b t55
    rw [block_Check_h4 nf G2 vars p p2 t48 fu p4 b t55]
    simp only [ih]
    rfl
theorem block_Check_h2 (nf : Nat)  (vars : Int) (p : List (List (Int × Int × Int × Int × Int × Unit) × Int × Int × Int × Unit)) (p2 : List (List (Int × Int × Int × Int × Int × Unit) × Int × Int × Int × Unit)) (fu : Nat) (p3 : List (List (Int × Int × Int × Int × Int × Unit) × Int × Int × Int × Unit)) (t48 : Int) : iter (fu + 1) (LC.F tab (block_Check_phi nf) (fun _ F => iter nf F) block_Check_keep 2 (block_Check_L2 nf )) (block_Check_m2 vars p p2 p3 t48) = block_Check_b2 nf (fun _ _ _ p3 v0 v1 v2 => iter nf (LC.F tab (block_Check_phi nf) (fun _ F => iter nf F) block_Check_keep 4 (block_Check_L4 nf (iter fu (LC.F tab (block_Check_phi nf) (fun _ F => iter nf F) block_Check_keep 2 (block_Check_L2 nf ))))) (block_Check_m4 vars p p2 p3 v0 v1 v2)) vars p p2  (fun p3 t48 => iter fu (LC.F tab (block_Check_phi nf) (fun _ F => iter nf F) block_Check_keep 2 (block_Check_L2 nf )) (block_Check_m2 vars p p2 p3 t48)) p3 t48 := by kernel_rfl
theorem block_Check_e2 (nf : Nat)  (vars : Int) (p : List (List (Int × Int × Int × Int × Int × Unit) × Int × Int × Int × Unit)) (p2 : List (List (Int × Int × Int × Int × Int × Unit) × Int × Int × Int × Unit)) : ∀ (fu : Nat) (p3 : List (List (Int × Int × Int × Int × Int × Unit) × Int × Int × Int × Unit)) (t48 : Int), iter fu (LC.F tab (block_Check_phi nf) (fun _ F => iter nf F) block_Check_keep 2 (block_Check_L2 nf )) (block_Check_m2 vars p p2 p3 t48) = block_Check_l2 nf vars p p2  fu p3 t48 := by
  intro fu
  induction fu with
  | zero => intros; rfl
  | succ fu ih =>
    intro p3 t48
    rw [block_Check_h2 nf  vars p p2 fu p3 t48]
    simp only [ih, block_Check_e4]
    rfl
theorem block_Check_h0 (nf : Nat)  (vars : Int) (p : List (List (Int × Int × Int × Int × Int × Unit) × Int × Int × Int × Unit)) (fu : Nat) (p2 : List (List (Int × Int × Int × Int × Int × Unit) × Int × Int × Int × Unit)) (many : Int) (t16 : Int) : iter (fu + 1) (LC.F tab (block_Check_phi nf) (fun _ F => iter nf F) block_Check_keep 0 (block_Check_L0 nf )) (block_Check_m0 vars p p2 many t16) = block_Check_b0 nf (fun _ _ p2 v0 v1 => iter nf (LC.F tab (block_Check_phi nf) (fun _ F => iter nf F) block_Check_keep 2 (block_Check_L2 nf )) (block_Check_m2 vars p p2 v0 v1)) vars p  (fun p2 many t16 => iter fu (LC.F tab (block_Check_phi nf) (fun _ F => iter nf F) block_Check_keep 0 (block_Check_L0 nf )) (block_Check_m0 vars p p2 many t16)) p2 many t16 := by kernel_rfl
theorem block_Check_e0 (nf : Nat)  (vars : Int) (p : List (List (Int × Int × Int × Int × Int × Unit) × Int × Int × Int × Unit)) : ∀ (fu : Nat) (p2 : List (List (Int × Int × Int × Int × Int × Unit) × Int × Int × Int × Unit)) (many : Int) (t16 : Int), iter fu (LC.F tab (block_Check_phi nf) (fun _ F => iter nf F) block_Check_keep 0 (block_Check_L0 nf )) (block_Check_m0 vars p p2 many t16) = block_Check_l0 nf vars p  fu p2 many t16 := by
  intro fu
  induction fu with
  | zero => intros; rfl
  | succ fu ih =>
    intro p2 many t16
    rw [block_Check_h0 nf  vars p fu p2 many t16]
    simp only [ih, block_Check_e2]
    rfl
theorem block_Check_eq (nf : Nat) (vars : Int) (p : List (List (Int × Int × Int × Int × Int × Unit) × Int × Int × Int × Unit)) : runF tab (block_Check_phi nf) block_Check_keep nf [PT.val (Ty.int IntKind.i64) (Md.bor true false), PT.val (((Ty.int IntKind.i64).pair ((Ty.int IntKind.i64).pair ((Ty.int IntKind.i64).pair ((Ty.int IntKind.i64).pair ((Ty.int IntKind.i64).pair Ty.unit))))).sl.pair ((Ty.int IntKind.i64).pair ((Ty.int IntKind.i64).pair ((Ty.int IntKind.i64).pair Ty.unit)))).sl (Md.bor true false)] [(Ty.int IntKind.i64, Md.bor false true)] (resL ([]) Try.f19) (codeOf Try.f19) ⟨vars, p, ()⟩ = block_Check_f nf vars p := by
  have h : runF tab (block_Check_phi nf) block_Check_keep nf [PT.val (Ty.int IntKind.i64) (Md.bor true false), PT.val (((Ty.int IntKind.i64).pair ((Ty.int IntKind.i64).pair ((Ty.int IntKind.i64).pair ((Ty.int IntKind.i64).pair ((Ty.int IntKind.i64).pair Ty.unit))))).sl.pair ((Ty.int IntKind.i64).pair ((Ty.int IntKind.i64).pair ((Ty.int IntKind.i64).pair Ty.unit)))).sl (Md.bor true false)] [(Ty.int IntKind.i64, Md.bor false true)] (resL ([]) Try.f19) (codeOf Try.f19) ⟨vars, p, ()⟩ = block_Check_p nf (fun p0 p1 v0 v1 v2 => iter nf (LC.F tab (block_Check_phi nf) (fun _ F => iter nf F) block_Check_keep 0 (block_Check_L0 nf)) (block_Check_m0 p0 p1 v0 v1 v2)) vars p := by kernel_rfl
  rw [h]
  simp only [block_Check_e0]
  rfl
def block_Check_F (nf : Nat) (x : denPs [.val (.int .i64) (.bor true false), .val (.sl (.pair (.sl (.pair (.int .i64) (.pair (.int .i64) (.pair (.int .i64) (.pair (.int .i64) (.pair (.int .i64) (.unit))))))) (.pair (.int .i64) (.pair (.int .i64) (.pair (.int .i64) (.unit)))))) (.bor true false)]) : Option (denL [(.int .i64, .bor false true)]) := block_Check_f nf x.1 x.2.1
def block_Check_C (nf : Nat) : Contract := ⟨[.val (.int .i64) (.bor true false), .val (.sl (.pair (.sl (.pair (.int .i64) (.pair (.int .i64) (.pair (.int .i64) (.pair (.int .i64) (.pair (.int .i64) (.unit))))))) (.pair (.int .i64) (.pair (.int .i64) (.pair (.int .i64) (.unit)))))) (.bor true false)], [(.int .i64, .bor false true)], block_Check_F nf, []⟩
theorem block_Check_ok : FnOK Try.prog 19 := ⟨Try.f19, codeOf Try.f19, Try.func19, by kernel_rfl, by kernel_rfl⟩
theorem block_Check_holds (nf : Nat) : Contract.Holds Try.prog 19 (block_Check_C nf) :=
  fn_holds (Φ := block_Check_phi nf) (keep := block_Check_keep) (n := nf) ⟨tabs.1, tabs.2, (ctx_cons block_step_ok (block_step_holds nf) (ctx_cons block_Check_1_ok (block_Check_1_holds nf) ctx_nil)), mixed, bk_ok bkls rfl⟩ (fn := Try.f19) ⟨Try.func19, by kernel_rfl, by kernel_rfl, by kernel_rfl⟩ (fun x => block_Check_eq nf x.1 x.2.1)

/-! codemason codemasonref.Inside -/
def ref_Inside_phi (nf : Nat) : Nat → Option Contract := lookC []
def ref_Inside_keep : Nat → List Nat := lookK [(0, [0, 1, 7, 8, 9])]
def ref_Inside_b0 (nf : Nat) (n' : Int) (l' : List Int) (g0 : Int → Option (Bool × Unit)) (t9 : Int) : Option (Bool × Unit) :=
  bif decide (t9 < (↑l'.length : Int)) then
    bif inb t9 l'.length then
      bif decide (l'.getD t9.toNat 0 < 0) then
        some ((false, ()))
      else
        bif decide (l'.getD t9.toNat 0 ≥ n') then
          some ((false, ()))
        else
          g0 (IntKind.i64.wrap (t9 + 1))
    else
      none
  else
    some ((true, ()))
def ref_Inside_p (nf : Nat) (l0 : Int → List Int → Int → Option (Bool × Unit)) (n' : Int) (l' : List Int) : Option (Bool × Unit) :=
  l0 n' l' 0
def ref_Inside_l0 (nf : Nat) (n' : Int) (l' : List Int) : Nat → Int → Option (Bool × Unit)
  | 0, _ => none
  | fu + 1, t9 => ref_Inside_b0 nf  n' l'  (ref_Inside_l0 nf n' l'  fu) t9
def ref_Inside_f (nf : Nat) (n' : Int) (l' : List Int) : Option (Bool × Unit) := ref_Inside_p nf (fun p0 p1 v0 => ref_Inside_l0 nf p0 p1 nf v0) n' l'
noncomputable def ref_Inside_L0 (nf : Nat) : LC (Bool × Unit) := theL (findL tab (ref_Inside_phi nf) (fun _ F => iter nf F) ref_Inside_keep 0 0 (codeOf Try.f55) (fin tab [(Ty.bool, Md.bor false true)] (resL ([]) Try.f55)) (fun _ _ => none) (fin tab [(Ty.bool, Md.bor false true)] (resL ([]) Try.f55)))
def ref_Inside_m0 (n' : Int) (l' : List Int) (t9 : Int) : St := ⟨fresh, [(0, AV.v (Ty.int IntKind.i64) (Md.bor false true) n'), (1, AV.v (Ty.int IntKind.i64).sl (Md.bor true false) l'), (7, AV.v (Ty.int IntKind.i64).sl (Md.bor true false) l'), (8, AV.v (Ty.int IntKind.i64) (Md.bor false true) (↑l'.length : Int)), (9, AV.v (Ty.int IntKind.i64) (Md.bor false true) t9)]⟩
theorem ref_Inside_h0 (nf : Nat)  (n' : Int) (l' : List Int) (fu : Nat) (t9 : Int) : iter (fu + 1) (LC.F tab (ref_Inside_phi nf) (fun _ F => iter nf F) ref_Inside_keep 0 (ref_Inside_L0 nf )) (ref_Inside_m0 n' l' t9) = ref_Inside_b0 nf  n' l'  (fun t9 => iter fu (LC.F tab (ref_Inside_phi nf) (fun _ F => iter nf F) ref_Inside_keep 0 (ref_Inside_L0 nf )) (ref_Inside_m0 n' l' t9)) t9 := by kernel_rfl
theorem ref_Inside_e0 (nf : Nat)  (n' : Int) (l' : List Int) : ∀ (fu : Nat) (t9 : Int), iter fu (LC.F tab (ref_Inside_phi nf) (fun _ F => iter nf F) ref_Inside_keep 0 (ref_Inside_L0 nf )) (ref_Inside_m0 n' l' t9) = ref_Inside_l0 nf n' l'  fu t9 := by
  intro fu
  induction fu with
  | zero => intros; rfl
  | succ fu ih =>
    intro t9
    rw [ref_Inside_h0 nf  n' l' fu t9]
    simp only [ih]
    rfl
theorem ref_Inside_eq (nf : Nat) (n' : Int) (l' : List Int) : runF tab (ref_Inside_phi nf) ref_Inside_keep nf [PT.val (Ty.int IntKind.i64) (Md.bor true false), PT.val (Ty.int IntKind.i64).sl (Md.bor true false)] [(Ty.bool, Md.bor false true)] (resL ([]) Try.f55) (codeOf Try.f55) ⟨n', l', ()⟩ = ref_Inside_f nf n' l' := by
  have h : runF tab (ref_Inside_phi nf) ref_Inside_keep nf [PT.val (Ty.int IntKind.i64) (Md.bor true false), PT.val (Ty.int IntKind.i64).sl (Md.bor true false)] [(Ty.bool, Md.bor false true)] (resL ([]) Try.f55) (codeOf Try.f55) ⟨n', l', ()⟩ = ref_Inside_p nf (fun p0 p1 v0 => iter nf (LC.F tab (ref_Inside_phi nf) (fun _ F => iter nf F) ref_Inside_keep 0 (ref_Inside_L0 nf)) (ref_Inside_m0 p0 p1 v0)) n' l' := by kernel_rfl
  rw [h]
  simp only [ref_Inside_e0]
  rfl
def ref_Inside_F (nf : Nat) (x : denPs [.val (.int .i64) (.bor true false), .val (.sl (.int .i64)) (.bor true false)]) : Option (denL [(.bool, .bor false true)]) := ref_Inside_f nf x.1 x.2.1
def ref_Inside_C (nf : Nat) : Contract := ⟨[.val (.int .i64) (.bor true false), .val (.sl (.int .i64)) (.bor true false)], [(.bool, .bor false true)], ref_Inside_F nf, []⟩
theorem ref_Inside_ok : FnOK Try.prog 55 := ⟨Try.f55, codeOf Try.f55, Try.func55, by kernel_rfl, by kernel_rfl⟩
theorem ref_Inside_holds (nf : Nat) : Contract.Holds Try.prog 55 (ref_Inside_C nf) :=
  fn_holds (Φ := ref_Inside_phi nf) (keep := ref_Inside_keep) (n := nf) ⟨tabs.1, tabs.2, ctx_nil, mixed, bk_ok bkls rfl⟩ (fn := Try.f55) ⟨Try.func55, by kernel_rfl, by kernel_rfl, by kernel_rfl⟩ (fun x => ref_Inside_eq nf x.1 x.2.1)

/-! codemason codemasonref.Value -/
def ref_Value_phi (nf : Nat) : Nat → Option Contract := lookC []
def ref_Value_keep : Nat → List Nat := lookK []
def ref_Value_p (nf : Nat)  (x : Int) : Option (Bool × Unit) :=
  bif decide (x ≥ 0) then
    some ((decide (x ≤ 255), ()))
  else
    some ((false, ()))
def ref_Value_f (nf : Nat) (x : Int) : Option (Bool × Unit) := ref_Value_p nf  x
theorem ref_Value_eq (nf : Nat) (x : Int) : runF tab (ref_Value_phi nf) ref_Value_keep nf [PT.val (Ty.int IntKind.i64) (Md.bor true false)] [(Ty.bool, Md.bor false true)] (resL ([]) Try.f96) (codeOf Try.f96) ⟨x, ()⟩ = ref_Value_f nf x := by
  have h : runF tab (ref_Value_phi nf) ref_Value_keep nf [PT.val (Ty.int IntKind.i64) (Md.bor true false)] [(Ty.bool, Md.bor false true)] (resL ([]) Try.f96) (codeOf Try.f96) ⟨x, ()⟩ = ref_Value_p nf  x := by kernel_rfl
  exact h
def ref_Value_F (nf : Nat) (x : denPs [.val (.int .i64) (.bor true false)]) : Option (denL [(.bool, .bor false true)]) := ref_Value_f nf x.1
def ref_Value_C (nf : Nat) : Contract := ⟨[.val (.int .i64) (.bor true false)], [(.bool, .bor false true)], ref_Value_F nf, []⟩
theorem ref_Value_ok : FnOK Try.prog 96 := ⟨Try.f96, codeOf Try.f96, Try.func96, by kernel_rfl, by kernel_rfl⟩
theorem ref_Value_holds (nf : Nat) : Contract.Holds Try.prog 96 (ref_Value_C nf) :=
  fn_holds (Φ := ref_Value_phi nf) (keep := ref_Value_keep) (n := nf) ⟨tabs.1, tabs.2, ctx_nil, mixed, bk_ok bkls rfl⟩ (fn := Try.f96) ⟨Try.func96, by kernel_rfl, by kernel_rfl, by kernel_rfl⟩ (fun x => ref_Value_eq nf x.1)

/-! codemason codemasonref.StepCheck -/
def ref_StepCheck_phi (nf : Nat) : Nat → Option Contract := lookC [(55, ref_Inside_C nf), (96, ref_Value_C nf)]
def ref_StepCheck_keep : Nat → List Nat := lookK []
def ref_StepCheck_p (nf : Nat)  (vars : Int) (regs : Int) (s : Int × Int × Int × Int × Int × Unit) : Option (Int × Unit) :=
  bif decide (s.fst < 1) then
    some ((6, ()))
  else
    bif decide (s.fst > 6) then
      some ((6, ()))
    else
      bif s.fst == 1 then
        Option.bind (ref_Value_f nf s.snd.snd.snd.snd.fst) fun r =>
        bif !r.fst then
          some ((4, ()))
        else
          bif s.fst == 2 then
            Option.bind (ref_Inside_f nf vars ([s.snd.snd.snd.snd.fst])) fun r2 =>
            bif !r2.fst then
              some ((4, ()))
            else
              Option.bind (ref_Inside_f nf regs ([s.snd.fst])) fun r3 =>
              bif !r3.fst then
                some ((2, ()))
              else
                bif decide (s.fst ≥ 3) then
                  Option.bind (ref_Inside_f nf regs ([s.snd.snd.fst, s.snd.snd.snd.fst])) fun r4 =>
                  bif !r4.fst then
                    some ((2, ()))
                  else
                    some ((0, ()))
                else
                  some ((0, ()))
          else
            Option.bind (ref_Inside_f nf regs ([s.snd.fst])) fun r5 =>
            bif !r5.fst then
              some ((2, ()))
            else
              bif decide (s.fst ≥ 3) then
                Option.bind (ref_Inside_f nf regs ([s.snd.snd.fst, s.snd.snd.snd.fst])) fun r6 =>
                bif !r6.fst then
                  some ((2, ()))
                else
                  some ((0, ()))
              else
                some ((0, ()))
      else
        bif s.fst == 2 then
          Option.bind (ref_Inside_f nf vars ([s.snd.snd.snd.snd.fst])) fun r7 =>
          bif !r7.fst then
            some ((4, ()))
          else
            Option.bind (ref_Inside_f nf regs ([s.snd.fst])) fun r8 =>
            bif !r8.fst then
              some ((2, ()))
            else
              bif decide (s.fst ≥ 3) then
                Option.bind (ref_Inside_f nf regs ([s.snd.snd.fst, s.snd.snd.snd.fst])) fun r9 =>
                bif !r9.fst then
                  some ((2, ()))
                else
                  some ((0, ()))
              else
                some ((0, ()))
        else
          Option.bind (ref_Inside_f nf regs ([s.snd.fst])) fun r10 =>
          bif !r10.fst then
            some ((2, ()))
          else
            bif decide (s.fst ≥ 3) then
              Option.bind (ref_Inside_f nf regs ([s.snd.snd.fst, s.snd.snd.snd.fst])) fun r11 =>
              bif !r11.fst then
                some ((2, ()))
              else
                some ((0, ()))
            else
              some ((0, ()))
def ref_StepCheck_f (nf : Nat) (vars : Int) (regs : Int) (s : Int × Int × Int × Int × Int × Unit) : Option (Int × Unit) := ref_StepCheck_p nf  vars regs s
theorem ref_StepCheck_eq (nf : Nat) (vars : Int) (regs : Int) (s : Int × Int × Int × Int × Int × Unit) : runF tab (ref_StepCheck_phi nf) ref_StepCheck_keep nf [PT.val (Ty.int IntKind.i64) (Md.bor true false), PT.val (Ty.int IntKind.i64) (Md.bor true false), PT.val ((Ty.int IntKind.i64).pair ((Ty.int IntKind.i64).pair ((Ty.int IntKind.i64).pair ((Ty.int IntKind.i64).pair ((Ty.int IntKind.i64).pair Ty.unit))))) (Md.bor true false)] [(Ty.int IntKind.i64, Md.bor false true)] (resL ([]) Try.f66) (codeOf Try.f66) ⟨vars, regs, s, ()⟩ = ref_StepCheck_f nf vars regs s := by
  have h : runF tab (ref_StepCheck_phi nf) ref_StepCheck_keep nf [PT.val (Ty.int IntKind.i64) (Md.bor true false), PT.val (Ty.int IntKind.i64) (Md.bor true false), PT.val ((Ty.int IntKind.i64).pair ((Ty.int IntKind.i64).pair ((Ty.int IntKind.i64).pair ((Ty.int IntKind.i64).pair ((Ty.int IntKind.i64).pair Ty.unit))))) (Md.bor true false)] [(Ty.int IntKind.i64, Md.bor false true)] (resL ([]) Try.f66) (codeOf Try.f66) ⟨vars, regs, s, ()⟩ = ref_StepCheck_p nf  vars regs s := by kernel_rfl
  exact h
def ref_StepCheck_F (nf : Nat) (x : denPs [.val (.int .i64) (.bor true false), .val (.int .i64) (.bor true false), .val (.pair (.int .i64) (.pair (.int .i64) (.pair (.int .i64) (.pair (.int .i64) (.pair (.int .i64) (.unit)))))) (.bor true false)]) : Option (denL [(.int .i64, .bor false true)]) := ref_StepCheck_f nf x.1 x.2.1 x.2.2.1
def ref_StepCheck_C (nf : Nat) : Contract := ⟨[.val (.int .i64) (.bor true false), .val (.int .i64) (.bor true false), .val (.pair (.int .i64) (.pair (.int .i64) (.pair (.int .i64) (.pair (.int .i64) (.pair (.int .i64) (.unit)))))) (.bor true false)], [(.int .i64, .bor false true)], ref_StepCheck_F nf, []⟩
theorem ref_StepCheck_ok : FnOK Try.prog 66 := ⟨Try.f66, codeOf Try.f66, Try.func66, by kernel_rfl, by kernel_rfl⟩
theorem ref_StepCheck_holds (nf : Nat) : Contract.Holds Try.prog 66 (ref_StepCheck_C nf) :=
  fn_holds (Φ := ref_StepCheck_phi nf) (keep := ref_StepCheck_keep) (n := nf) ⟨tabs.1, tabs.2, (ctx_cons ref_Inside_ok (ref_Inside_holds nf) (ctx_cons ref_Value_ok (ref_Value_holds nf) ctx_nil)), mixed, bk_ok bkls rfl⟩ (fn := Try.f66) ⟨Try.func66, by kernel_rfl, by kernel_rfl, by kernel_rfl⟩ (fun x => ref_StepCheck_eq nf x.1 x.2.1 x.2.2.1)

/-! codemason codemasonref.ProgCheck -/
def ref_ProgCheck_phi (nf : Nat) : Nat → Option Contract := lookC [(55, ref_Inside_C nf), (66, ref_StepCheck_C nf)]
def ref_ProgCheck_keep : Nat → List Nat := lookK [(4, [0, 1, 9, 45, 46, 47, 51, 52, 53, 54]), (2, [0, 1, 45, 46, 47]), (0, [0, 1, 5, 13, 14, 15])]
def ref_ProgCheck_b0 (nf : Nat) (l2 : Int → List (List (Int × Int × Int × Int × Int × Unit) × Int × Int × Int × Unit) → Int → Option (Int × Unit)) (vars : Int) (p : List (List (Int × Int × Int × Int × Int × Unit) × Int × Int × Int × Unit)) (g0 : Int → Int → Option (Int × Unit)) (many : Int) (t15 : Int) : Option (Int × Unit) :=
  bif decide (t15 < (↑p.length : Int)) then
    bif inb t15 p.length then
      g0 (IntKind.i64.wrap (many + (↑(List.length (p.getD t15.toNat ([], 0, 0, 0, ())).fst) : Int))) (IntKind.i64.wrap (t15 + 1))
    else
      none
  else
    bif decide (vars < 1) then
      some ((1, ()))
    else
      bif decide (vars > 6) then
        some ((1, ()))
      else
        bif decide ((↑p.length : Int) < 1) then
          some ((1, ()))
        else
          bif decide ((↑p.length : Int) > 8) then
            some ((1, ()))
          else
            bif decide (many > 20) then
              some ((1, ()))
            else
              l2 vars p 0
def ref_ProgCheck_b2 (nf : Nat) (l4 : Int → List (List (Int × Int × Int × Int × Int × Unit) × Int × Int × Int × Unit) → Int → List (Int × Int × Int × Int × Int × Unit) × Int × Int × Int × Unit → Int → Option (Int × Unit)) (vars : Int) (p : List (List (Int × Int × Int × Int × Int × Unit) × Int × Int × Int × Unit)) (g2 : Int → Option (Int × Unit)) (t47 : Int) : Option (Int × Unit) :=
  bif decide (t47 < (↑p.length : Int)) then
    bif inb t47 p.length then
      l4 vars p t47 (p.getD t47.toNat ([], 0, 0, 0, ())) 0
    else
      none
  else
    some ((0, ()))
def ref_ProgCheck_b4 (nf : Nat) (vars : Int) (p : List (List (Int × Int × Int × Int × Int × Unit) × Int × Int × Int × Unit)) (t47 : Int) (g2 : Int → Option (Int × Unit)) (g4 : List (Int × Int × Int × Int × Int × Unit) × Int × Int × Int × Unit → Int → Option (Int × Unit)) (b : List (Int × Int × Int × Int × Int × Unit) × Int × Int × Int × Unit) (t54 : Int) : Option (Int × Unit) :=
  bif decide (t54 < (↑(List.length (p.getD t47.toNat ([], 0, 0, 0, ())).fst) : Int)) then
    bif inb t54 (List.length (p.getD t47.toNat ([], 0, 0, 0, ())).fst) then
      Option.bind (ref_StepCheck_f nf vars vars (List.getD (p.getD t47.toNat ([], 0, 0, 0, ())).fst t54.toNat (0, 0, 0, 0, 0, ()))) fun r =>
      bif r.fst != 0 then
        some ((r.fst, ()))
      else
        g4 b (IntKind.i64.wrap (t54 + 1))
    else
      none
  else
    bif b.snd.fst != (-1) then
      Option.bind (ref_Inside_f nf vars ([b.snd.fst])) fun r2 =>
      bif !r2.fst then
        some ((2, ()))
      else
        bif b.snd.fst == (-1) then
          bif b.snd.snd.fst != (-1) then
            Option.bind (ref_Inside_f nf ((↑p.length : Int)) ([b.snd.snd.fst])) fun r3 =>
            bif !r3.fst then
              some ((3, ()))
            else
              bif decide (b.snd.fst ≥ 0) then
                Option.bind (ref_Inside_f nf ((↑p.length : Int)) ([b.snd.snd.fst, b.snd.snd.snd.fst])) fun r4 =>
                bif !r4.fst then
                  some ((3, ()))
                else
                  g2 (IntKind.i64.wrap (t47 + 1))
              else
                g2 (IntKind.i64.wrap (t47 + 1))
          else
            bif decide (b.snd.fst ≥ 0) then
              Option.bind (ref_Inside_f nf ((↑p.length : Int)) ([b.snd.snd.fst, b.snd.snd.snd.fst])) fun r5 =>
              bif !r5.fst then
                some ((3, ()))
              else
                g2 (IntKind.i64.wrap (t47 + 1))
            else
              g2 (IntKind.i64.wrap (t47 + 1))
        else
          bif decide (b.snd.fst ≥ 0) then
            Option.bind (ref_Inside_f nf ((↑p.length : Int)) ([b.snd.snd.fst, b.snd.snd.snd.fst])) fun r6 =>
            bif !r6.fst then
              some ((3, ()))
            else
              g2 (IntKind.i64.wrap (t47 + 1))
          else
            g2 (IntKind.i64.wrap (t47 + 1))
    else
      bif b.snd.fst == (-1) then
        bif b.snd.snd.fst != (-1) then
          Option.bind (ref_Inside_f nf ((↑p.length : Int)) ([b.snd.snd.fst])) fun r7 =>
          bif !r7.fst then
            some ((3, ()))
          else
            bif decide (b.snd.fst ≥ 0) then
              Option.bind (ref_Inside_f nf ((↑p.length : Int)) ([b.snd.snd.fst, b.snd.snd.snd.fst])) fun r8 =>
              bif !r8.fst then
                some ((3, ()))
              else
                g2 (IntKind.i64.wrap (t47 + 1))
            else
              g2 (IntKind.i64.wrap (t47 + 1))
        else
          bif decide (b.snd.fst ≥ 0) then
            Option.bind (ref_Inside_f nf ((↑p.length : Int)) ([b.snd.snd.fst, b.snd.snd.snd.fst])) fun r9 =>
            bif !r9.fst then
              some ((3, ()))
            else
              g2 (IntKind.i64.wrap (t47 + 1))
          else
            g2 (IntKind.i64.wrap (t47 + 1))
      else
        bif decide (b.snd.fst ≥ 0) then
          Option.bind (ref_Inside_f nf ((↑p.length : Int)) ([b.snd.snd.fst, b.snd.snd.snd.fst])) fun r10 =>
          bif !r10.fst then
            some ((3, ()))
          else
            g2 (IntKind.i64.wrap (t47 + 1))
        else
          g2 (IntKind.i64.wrap (t47 + 1))
def ref_ProgCheck_p (nf : Nat) (l0 : Int → List (List (Int × Int × Int × Int × Int × Unit) × Int × Int × Int × Unit) → Int → Int → Option (Int × Unit)) (vars : Int) (p : List (List (Int × Int × Int × Int × Int × Unit) × Int × Int × Int × Unit)) : Option (Int × Unit) :=
  l0 vars p 0 0
def ref_ProgCheck_l4 (nf : Nat) (vars : Int) (p : List (List (Int × Int × Int × Int × Int × Unit) × Int × Int × Int × Unit)) (t47 : Int) (g2 : Int → Option (Int × Unit)) : Nat → List (Int × Int × Int × Int × Int × Unit) × Int × Int × Int × Unit → Int → Option (Int × Unit)
  | 0, _, _ => none
  | fu + 1, b, t54 => ref_ProgCheck_b4 nf  vars p t47 g2 (ref_ProgCheck_l4 nf vars p t47 g2 fu) b t54
def ref_ProgCheck_l2 (nf : Nat) (vars : Int) (p : List (List (Int × Int × Int × Int × Int × Unit) × Int × Int × Int × Unit)) : Nat → Int → Option (Int × Unit)
  | 0, _ => none
  | fu + 1, t47 => ref_ProgCheck_b2 nf (fun _ _ p2 v0 v1 => ref_ProgCheck_l4 nf vars p p2 (fun t47 => ref_ProgCheck_l2 nf vars p  fu t47) nf v0 v1) vars p  (ref_ProgCheck_l2 nf vars p  fu) t47
def ref_ProgCheck_l0 (nf : Nat) (vars : Int) (p : List (List (Int × Int × Int × Int × Int × Unit) × Int × Int × Int × Unit)) : Nat → Int → Int → Option (Int × Unit)
  | 0, _, _ => none
  | fu + 1, many, t15 => ref_ProgCheck_b0 nf (fun _ _ v0 => ref_ProgCheck_l2 nf vars p  nf v0) vars p  (ref_ProgCheck_l0 nf vars p  fu) many t15
def ref_ProgCheck_f (nf : Nat) (vars : Int) (p : List (List (Int × Int × Int × Int × Int × Unit) × Int × Int × Int × Unit)) : Option (Int × Unit) := ref_ProgCheck_p nf (fun p0 p1 v0 v1 => ref_ProgCheck_l0 nf p0 p1 nf v0 v1) vars p
noncomputable def ref_ProgCheck_L0 (nf : Nat) : LC (Int × Unit) := theL (findL tab (ref_ProgCheck_phi nf) (fun _ F => iter nf F) ref_ProgCheck_keep 0 0 (codeOf Try.f20) (fin tab [(Ty.int IntKind.i64, Md.bor false true)] (resL ([]) Try.f20)) (fun _ _ => none) (fin tab [(Ty.int IntKind.i64, Md.bor false true)] (resL ([]) Try.f20)))
def ref_ProgCheck_m0 (vars : Int) (p : List (List (Int × Int × Int × Int × Int × Unit) × Int × Int × Int × Unit)) (many : Int) (t15 : Int) : St := ⟨fresh, [(0, AV.v (Ty.int IntKind.i64) (Md.bor false true) vars), (1, AV.v (((Ty.int IntKind.i64).pair ((Ty.int IntKind.i64).pair ((Ty.int IntKind.i64).pair ((Ty.int IntKind.i64).pair ((Ty.int IntKind.i64).pair Ty.unit))))).sl.pair ((Ty.int IntKind.i64).pair ((Ty.int IntKind.i64).pair ((Ty.int IntKind.i64).pair Ty.unit)))).sl (Md.bor true false) p), (5, AV.v (Ty.int IntKind.i64) (Md.bor false true) many), (13, AV.v (((Ty.int IntKind.i64).pair ((Ty.int IntKind.i64).pair ((Ty.int IntKind.i64).pair ((Ty.int IntKind.i64).pair ((Ty.int IntKind.i64).pair Ty.unit))))).sl.pair ((Ty.int IntKind.i64).pair ((Ty.int IntKind.i64).pair ((Ty.int IntKind.i64).pair Ty.unit)))).sl (Md.bor true false) p), (14, AV.v (Ty.int IntKind.i64) (Md.bor false true) (↑p.length : Int)), (15, AV.v (Ty.int IntKind.i64) (Md.bor false true) t15)]⟩
noncomputable def ref_ProgCheck_L2 (nf : Nat) : LC (Int × Unit) := theL (findL tab (ref_ProgCheck_phi nf) (fun _ F => iter nf F) ref_ProgCheck_keep 2 0 (codeOf Try.f20) (fin tab [(Ty.int IntKind.i64, Md.bor false true)] (resL ([]) Try.f20)) (fun _ _ => none) (fin tab [(Ty.int IntKind.i64, Md.bor false true)] (resL ([]) Try.f20)))
def ref_ProgCheck_m2 (vars : Int) (p : List (List (Int × Int × Int × Int × Int × Unit) × Int × Int × Int × Unit)) (t47 : Int) : St := ⟨fresh, [(0, AV.v (Ty.int IntKind.i64) (Md.bor false true) vars), (1, AV.v (((Ty.int IntKind.i64).pair ((Ty.int IntKind.i64).pair ((Ty.int IntKind.i64).pair ((Ty.int IntKind.i64).pair ((Ty.int IntKind.i64).pair Ty.unit))))).sl.pair ((Ty.int IntKind.i64).pair ((Ty.int IntKind.i64).pair ((Ty.int IntKind.i64).pair Ty.unit)))).sl (Md.bor true false) p), (45, AV.v (((Ty.int IntKind.i64).pair ((Ty.int IntKind.i64).pair ((Ty.int IntKind.i64).pair ((Ty.int IntKind.i64).pair ((Ty.int IntKind.i64).pair Ty.unit))))).sl.pair ((Ty.int IntKind.i64).pair ((Ty.int IntKind.i64).pair ((Ty.int IntKind.i64).pair Ty.unit)))).sl (Md.bor true false) p), (46, AV.v (Ty.int IntKind.i64) (Md.bor false true) (↑p.length : Int)), (47, AV.v (Ty.int IntKind.i64) (Md.bor false true) t47)]⟩
noncomputable def ref_ProgCheck_L4 (nf : Nat) (G2 : St → Option (Int × Unit)) : LC (Int × Unit) := theL (findL tab (ref_ProgCheck_phi nf) (fun _ F => iter nf F) ref_ProgCheck_keep 4 2 (ref_ProgCheck_L2 nf ).c (fun st => norm (ref_ProgCheck_keep 2) st G2) (ref_ProgCheck_L2 nf ).Kx (ref_ProgCheck_L2 nf ).Kr)
def ref_ProgCheck_m4 (vars : Int) (p : List (List (Int × Int × Int × Int × Int × Unit) × Int × Int × Int × Unit)) (t47 : Int) (b : List (Int × Int × Int × Int × Int × Unit) × Int × Int × Int × Unit) (t54 : Int) : St := ⟨fresh, [(0, AV.v (Ty.int IntKind.i64) (Md.bor false true) vars), (1, AV.v (((Ty.int IntKind.i64).pair ((Ty.int IntKind.i64).pair ((Ty.int IntKind.i64).pair ((Ty.int IntKind.i64).pair ((Ty.int IntKind.i64).pair Ty.unit))))).sl.pair ((Ty.int IntKind.i64).pair ((Ty.int IntKind.i64).pair ((Ty.int IntKind.i64).pair Ty.unit)))).sl (Md.bor true false) p), (9, AV.box 9 500009 (((Ty.int IntKind.i64).pair ((Ty.int IntKind.i64).pair ((Ty.int IntKind.i64).pair ((Ty.int IntKind.i64).pair ((Ty.int IntKind.i64).pair Ty.unit))))).sl.pair ((Ty.int IntKind.i64).pair ((Ty.int IntKind.i64).pair ((Ty.int IntKind.i64).pair Ty.unit)))) (Md.bor true false) b), (45, AV.v (((Ty.int IntKind.i64).pair ((Ty.int IntKind.i64).pair ((Ty.int IntKind.i64).pair ((Ty.int IntKind.i64).pair ((Ty.int IntKind.i64).pair Ty.unit))))).sl.pair ((Ty.int IntKind.i64).pair ((Ty.int IntKind.i64).pair ((Ty.int IntKind.i64).pair Ty.unit)))).sl (Md.bor true false) p), (46, AV.v (Ty.int IntKind.i64) (Md.bor false true) (↑p.length : Int)), (47, AV.v (Ty.int IntKind.i64) (Md.bor false true) t47), (51, AV.pl 9 9 [Stp.dr, Stp.fld 0]), (52, AV.v ((Ty.int IntKind.i64).pair ((Ty.int IntKind.i64).pair ((Ty.int IntKind.i64).pair ((Ty.int IntKind.i64).pair ((Ty.int IntKind.i64).pair Ty.unit))))).sl (Md.bor true false) (p.getD t47.toNat ([], 0, 0, 0, ())).fst), (53, AV.v (Ty.int IntKind.i64) (Md.bor false true) (↑(List.length (p.getD t47.toNat ([], 0, 0, 0, ())).fst) : Int)), (54, AV.v (Ty.int IntKind.i64) (Md.bor false true) t54)]⟩
theorem ref_ProgCheck_h4 (nf : Nat) (G2 : St → Option (Int × Unit)) (vars : Int) (p : List (List (Int × Int × Int × Int × Int × Unit) × Int × Int × Int × Unit)) (t47 : Int) (fu : Nat) (b : List (Int × Int × Int × Int × Int × Unit) × Int × Int × Int × Unit) (t54 : Int) : iter (fu + 1) (LC.F tab (ref_ProgCheck_phi nf) (fun _ F => iter nf F) ref_ProgCheck_keep 4 (ref_ProgCheck_L4 nf G2)) (ref_ProgCheck_m4 vars p t47 b t54) = ref_ProgCheck_b4 nf  vars p t47 (fun t47 => G2 (ref_ProgCheck_m2 vars p t47)) (fun b t54 => iter fu (LC.F tab (ref_ProgCheck_phi nf) (fun _ F => iter nf F) ref_ProgCheck_keep 4 (ref_ProgCheck_L4 nf G2)) (ref_ProgCheck_m4 vars p t47 b t54)) b t54 := by kernel_rfl
theorem ref_ProgCheck_e4 (nf : Nat) (G2 : St → Option (Int × Unit)) (vars : Int) (p : List (List (Int × Int × Int × Int × Int × Unit) × Int × Int × Int × Unit)) (t47 : Int) : ∀ (fu : Nat) (b : List (Int × Int × Int × Int × Int × Unit) × Int × Int × Int × Unit) (t54 : Int), iter fu (LC.F tab (ref_ProgCheck_phi nf) (fun _ F => iter nf F) ref_ProgCheck_keep 4 (ref_ProgCheck_L4 nf G2)) (ref_ProgCheck_m4 vars p t47 b t54) = ref_ProgCheck_l4 nf vars p t47 (fun t47 => G2 (ref_ProgCheck_m2 vars p t47)) fu b t54 := by
  intro fu
  induction fu with
  | zero => intros; rfl
  | succ fu ih =>
    intro b t54
    rw [ref_ProgCheck_h4 nf G2 vars p t47 fu b t54]
    simp only [ih]
    rfl
theorem ref_ProgCheck_h2 (nf : Nat)  (vars : Int) (p : List (List (Int × Int × Int × Int × Int × Unit) × Int × Int × Int × Unit)) (fu : Nat) (t47 : Int) : iter (fu + 1) (LC.F tab (ref_ProgCheck_phi nf) (fun _ F => iter nf F) ref_ProgCheck_keep 2 (ref_ProgCheck_L2 nf )) (ref_ProgCheck_m2 vars p t47) = ref_ProgCheck_b2 nf (fun _ _ p2 v0 v1 => iter nf (LC.F tab (ref_ProgCheck_phi nf) (fun _ F => iter nf F) ref_ProgCheck_keep 4 (ref_ProgCheck_L4 nf (iter fu (LC.F tab (ref_ProgCheck_phi nf) (fun _ F => iter nf F) ref_ProgCheck_keep 2 (ref_ProgCheck_L2 nf ))))) (ref_ProgCheck_m4 vars p p2 v0 v1)) vars p  (fun t47 => iter fu (LC.F tab (ref_ProgCheck_phi nf) (fun _ F => iter nf F) ref_ProgCheck_keep 2 (ref_ProgCheck_L2 nf )) (ref_ProgCheck_m2 vars p t47)) t47 := by kernel_rfl
theorem ref_ProgCheck_e2 (nf : Nat)  (vars : Int) (p : List (List (Int × Int × Int × Int × Int × Unit) × Int × Int × Int × Unit)) : ∀ (fu : Nat) (t47 : Int), iter fu (LC.F tab (ref_ProgCheck_phi nf) (fun _ F => iter nf F) ref_ProgCheck_keep 2 (ref_ProgCheck_L2 nf )) (ref_ProgCheck_m2 vars p t47) = ref_ProgCheck_l2 nf vars p  fu t47 := by
  intro fu
  induction fu with
  | zero => intros; rfl
  | succ fu ih =>
    intro t47
    rw [ref_ProgCheck_h2 nf  vars p fu t47]
    simp only [ih, ref_ProgCheck_e4]
    rfl
theorem ref_ProgCheck_h0 (nf : Nat)  (vars : Int) (p : List (List (Int × Int × Int × Int × Int × Unit) × Int × Int × Int × Unit)) (fu : Nat) (many : Int) (t15 : Int) : iter (fu + 1) (LC.F tab (ref_ProgCheck_phi nf) (fun _ F => iter nf F) ref_ProgCheck_keep 0 (ref_ProgCheck_L0 nf )) (ref_ProgCheck_m0 vars p many t15) = ref_ProgCheck_b0 nf (fun _ _ v0 => iter nf (LC.F tab (ref_ProgCheck_phi nf) (fun _ F => iter nf F) ref_ProgCheck_keep 2 (ref_ProgCheck_L2 nf )) (ref_ProgCheck_m2 vars p v0)) vars p  (fun many t15 => iter fu (LC.F tab (ref_ProgCheck_phi nf) (fun _ F => iter nf F) ref_ProgCheck_keep 0 (ref_ProgCheck_L0 nf )) (ref_ProgCheck_m0 vars p many t15)) many t15 := by kernel_rfl
theorem ref_ProgCheck_e0 (nf : Nat)  (vars : Int) (p : List (List (Int × Int × Int × Int × Int × Unit) × Int × Int × Int × Unit)) : ∀ (fu : Nat) (many : Int) (t15 : Int), iter fu (LC.F tab (ref_ProgCheck_phi nf) (fun _ F => iter nf F) ref_ProgCheck_keep 0 (ref_ProgCheck_L0 nf )) (ref_ProgCheck_m0 vars p many t15) = ref_ProgCheck_l0 nf vars p  fu many t15 := by
  intro fu
  induction fu with
  | zero => intros; rfl
  | succ fu ih =>
    intro many t15
    rw [ref_ProgCheck_h0 nf  vars p fu many t15]
    simp only [ih, ref_ProgCheck_e2]
    rfl
theorem ref_ProgCheck_eq (nf : Nat) (vars : Int) (p : List (List (Int × Int × Int × Int × Int × Unit) × Int × Int × Int × Unit)) : runF tab (ref_ProgCheck_phi nf) ref_ProgCheck_keep nf [PT.val (Ty.int IntKind.i64) (Md.bor true false), PT.val (((Ty.int IntKind.i64).pair ((Ty.int IntKind.i64).pair ((Ty.int IntKind.i64).pair ((Ty.int IntKind.i64).pair ((Ty.int IntKind.i64).pair Ty.unit))))).sl.pair ((Ty.int IntKind.i64).pair ((Ty.int IntKind.i64).pair ((Ty.int IntKind.i64).pair Ty.unit)))).sl (Md.bor true false)] [(Ty.int IntKind.i64, Md.bor false true)] (resL ([]) Try.f20) (codeOf Try.f20) ⟨vars, p, ()⟩ = ref_ProgCheck_f nf vars p := by
  have h : runF tab (ref_ProgCheck_phi nf) ref_ProgCheck_keep nf [PT.val (Ty.int IntKind.i64) (Md.bor true false), PT.val (((Ty.int IntKind.i64).pair ((Ty.int IntKind.i64).pair ((Ty.int IntKind.i64).pair ((Ty.int IntKind.i64).pair ((Ty.int IntKind.i64).pair Ty.unit))))).sl.pair ((Ty.int IntKind.i64).pair ((Ty.int IntKind.i64).pair ((Ty.int IntKind.i64).pair Ty.unit)))).sl (Md.bor true false)] [(Ty.int IntKind.i64, Md.bor false true)] (resL ([]) Try.f20) (codeOf Try.f20) ⟨vars, p, ()⟩ = ref_ProgCheck_p nf (fun p0 p1 v0 v1 => iter nf (LC.F tab (ref_ProgCheck_phi nf) (fun _ F => iter nf F) ref_ProgCheck_keep 0 (ref_ProgCheck_L0 nf)) (ref_ProgCheck_m0 p0 p1 v0 v1)) vars p := by kernel_rfl
  rw [h]
  simp only [ref_ProgCheck_e0]
  rfl
def ref_ProgCheck_F (nf : Nat) (x : denPs [.val (.int .i64) (.bor true false), .val (.sl (.pair (.sl (.pair (.int .i64) (.pair (.int .i64) (.pair (.int .i64) (.pair (.int .i64) (.pair (.int .i64) (.unit))))))) (.pair (.int .i64) (.pair (.int .i64) (.pair (.int .i64) (.unit)))))) (.bor true false)]) : Option (denL [(.int .i64, .bor false true)]) := ref_ProgCheck_f nf x.1 x.2.1
def ref_ProgCheck_C (nf : Nat) : Contract := ⟨[.val (.int .i64) (.bor true false), .val (.sl (.pair (.sl (.pair (.int .i64) (.pair (.int .i64) (.pair (.int .i64) (.pair (.int .i64) (.pair (.int .i64) (.unit))))))) (.pair (.int .i64) (.pair (.int .i64) (.pair (.int .i64) (.unit)))))) (.bor true false)], [(.int .i64, .bor false true)], ref_ProgCheck_F nf, []⟩
theorem ref_ProgCheck_ok : FnOK Try.prog 20 := ⟨Try.f20, codeOf Try.f20, Try.func20, by kernel_rfl, by kernel_rfl⟩
theorem ref_ProgCheck_holds (nf : Nat) : Contract.Holds Try.prog 20 (ref_ProgCheck_C nf) :=
  fn_holds (Φ := ref_ProgCheck_phi nf) (keep := ref_ProgCheck_keep) (n := nf) ⟨tabs.1, tabs.2, (ctx_cons ref_Inside_ok (ref_Inside_holds nf) (ctx_cons ref_StepCheck_ok (ref_StepCheck_holds nf) ctx_nil)), mixed, bk_ok bkls rfl⟩ (fn := Try.f20) ⟨Try.func20, by kernel_rfl, by kernel_rfl, by kernel_rfl⟩ (fun x => ref_ProgCheck_eq nf x.1 x.2.1)

/-! codemason term.Do -/
def term_Do_phi (nf : Nat) : Nat → Option Contract := lookC []
def term_Do_keep : Nat → List Nat := lookK []
def term_Do_p (nf : Nat)  (op : Int) (a : Int) (b : Int) : Option (Int × Unit) :=
  bif op == 3 then
    some ((IntKind.i64.wrap (↑(BitVec.ofInt IntKind.i64.bits (IntKind.i64.wrap (a + b)) &&& BitVec.ofInt IntKind.i64.bits 255).toNat : Int), ()))
  else
    bif op == 4 then
      some ((IntKind.i64.wrap (↑(BitVec.ofInt IntKind.i64.bits (IntKind.i64.wrap (a - b)) &&& BitVec.ofInt IntKind.i64.bits 255).toNat : Int), ()))
    else
      bif op == 5 then
        some ((IntKind.i64.wrap (↑(BitVec.ofInt IntKind.i64.bits (IntKind.i64.wrap (a * b)) &&& BitVec.ofInt IntKind.i64.bits 255).toNat : Int), ()))
      else
        bif decide (a < b) then
          some ((1, ()))
        else
          some ((0, ()))
def term_Do_f (nf : Nat) (op : Int) (a : Int) (b : Int) : Option (Int × Unit) := term_Do_p nf  op a b
theorem term_Do_eq (nf : Nat) (op : Int) (a : Int) (b : Int) : runF tab (term_Do_phi nf) term_Do_keep nf [PT.val (Ty.int IntKind.i64) (Md.bor true false), PT.val (Ty.int IntKind.i64) (Md.bor true false), PT.val (Ty.int IntKind.i64) (Md.bor true false)] [(Ty.int IntKind.i64, Md.bor false true)] (resL ([]) Try.f112) (codeOf Try.f112) ⟨op, a, b, ()⟩ = term_Do_f nf op a b := by
  have h : runF tab (term_Do_phi nf) term_Do_keep nf [PT.val (Ty.int IntKind.i64) (Md.bor true false), PT.val (Ty.int IntKind.i64) (Md.bor true false), PT.val (Ty.int IntKind.i64) (Md.bor true false)] [(Ty.int IntKind.i64, Md.bor false true)] (resL ([]) Try.f112) (codeOf Try.f112) ⟨op, a, b, ()⟩ = term_Do_p nf  op a b := by kernel_rfl
  exact h
def term_Do_F (nf : Nat) (x : denPs [.val (.int .i64) (.bor true false), .val (.int .i64) (.bor true false), .val (.int .i64) (.bor true false)]) : Option (denL [(.int .i64, .bor false true)]) := term_Do_f nf x.1 x.2.1 x.2.2.1
def term_Do_C (nf : Nat) : Contract := ⟨[.val (.int .i64) (.bor true false), .val (.int .i64) (.bor true false), .val (.int .i64) (.bor true false)], [(.int .i64, .bor false true)], term_Do_F nf, []⟩
theorem term_Do_ok : FnOK Try.prog 112 := ⟨Try.f112, codeOf Try.f112, Try.func112, by kernel_rfl, by kernel_rfl⟩
theorem term_Do_holds (nf : Nat) : Contract.Holds Try.prog 112 (term_Do_C nf) :=
  fn_holds (Φ := term_Do_phi nf) (keep := term_Do_keep) (n := nf) ⟨tabs.1, tabs.2, ctx_nil, mixed, bk_ok bkls rfl⟩ (fn := Try.f112) ⟨Try.func112, by kernel_rfl, by kernel_rfl, by kernel_rfl⟩ (fun x => term_Do_eq nf x.1 x.2.1 x.2.2.1)

/-! codemason term.Have 1 -/
def term_Have_1_phi (nf : Nat) : Nat → Option Contract := lookC []
def term_Have_1_keep : Nat → List Nat := lookK []
def term_Have_1_p (nf : Nat)  (x : Int) : Option (Bool × Unit) :=
  bif decide (x < 0) then
    some ((true, ()))
  else
    some ((decide (x > 255), ()))
def term_Have_1_f (nf : Nat) (x : Int) : Option (Bool × Unit) := term_Have_1_p nf  x
theorem term_Have_1_eq (nf : Nat) (x : Int) : runF tab (term_Have_1_phi nf) term_Have_1_keep nf [PT.val (Ty.int IntKind.i64) (Md.bor true false)] [(Ty.bool, Md.bor false true)] (resL ([]) Try.f119) (codeOf Try.f119) ⟨x, ()⟩ = term_Have_1_f nf x := by
  have h : runF tab (term_Have_1_phi nf) term_Have_1_keep nf [PT.val (Ty.int IntKind.i64) (Md.bor true false)] [(Ty.bool, Md.bor false true)] (resL ([]) Try.f119) (codeOf Try.f119) ⟨x, ()⟩ = term_Have_1_p nf  x := by kernel_rfl
  exact h
def term_Have_1_F (nf : Nat) (x : denPs [.val (.int .i64) (.bor true false)]) : Option (denL [(.bool, .bor false true)]) := term_Have_1_f nf x.1
def term_Have_1_C (nf : Nat) : Contract := ⟨[.val (.int .i64) (.bor true false)], [(.bool, .bor false true)], term_Have_1_F nf, []⟩
theorem term_Have_1_ok : FnOK Try.prog 119 := ⟨Try.f119, codeOf Try.f119, Try.func119, by kernel_rfl, by kernel_rfl⟩
theorem term_Have_1_holds (nf : Nat) : Contract.Holds Try.prog 119 (term_Have_1_C nf) :=
  fn_holds (Φ := term_Have_1_phi nf) (keep := term_Have_1_keep) (n := nf) ⟨tabs.1, tabs.2, ctx_nil, mixed, bk_ok bkls rfl⟩ (fn := Try.f119) ⟨Try.func119, by kernel_rfl, by kernel_rfl, by kernel_rfl⟩ (fun x => term_Have_1_eq nf x.1)

/-! slices.IndexFunc   int int  codemason term.Have 1 -/
def slices_IndexFunc__term_Have_1_phi (nf : Nat) : Nat → Option Contract := lookC [(119, term_Have_1_C nf)]
def slices_IndexFunc__term_Have_1_keep : Nat → List Nat := lookK [(0, [0, 1, 7, 8])]
def slices_IndexFunc__term_Have_1_b0 (nf : Nat) (s : List Int) (g0 : Int → Option (Int × Unit)) (t8 : Int) : Option (Int × Unit) :=
  bif decide (t8 < (↑s.length : Int)) then
    bif inb t8 s.length then
      Option.bind (term_Have_1_f nf (s.getD t8.toNat 0)) fun r =>
      bif r.fst then
        some ((t8, ()))
      else
        g0 (IntKind.i64.wrap (t8 + 1))
    else
      none
  else
    some ((-1, ()))
def slices_IndexFunc__term_Have_1_p (nf : Nat) (l0 : List Int → Int → Option (Int × Unit)) (s : List Int) (f : Unit) : Option (Int × Unit) :=
  l0 s 0
def slices_IndexFunc__term_Have_1_l0 (nf : Nat) (s : List Int) : Nat → Int → Option (Int × Unit)
  | 0, _ => none
  | fu + 1, t8 => slices_IndexFunc__term_Have_1_b0 nf  s  (slices_IndexFunc__term_Have_1_l0 nf s  fu) t8
def slices_IndexFunc__term_Have_1_f (nf : Nat) (s : List Int) (f : Unit) : Option (Int × Unit) := slices_IndexFunc__term_Have_1_p nf (fun p0 v0 => slices_IndexFunc__term_Have_1_l0 nf p0 nf v0) s f
noncomputable def slices_IndexFunc__term_Have_1_L0 (nf : Nat) : LC (Int × Unit) := theL (findL tab (slices_IndexFunc__term_Have_1_phi nf) (fun _ F => iter nf F) slices_IndexFunc__term_Have_1_keep 0 0 (codeOf Try.f137) (fin tab [(Ty.int IntKind.i64, Md.bor false true)] (resL ([]) Try.f137)) (fun _ _ => none) (fin tab [(Ty.int IntKind.i64, Md.bor false true)] (resL ([]) Try.f137)))
def slices_IndexFunc__term_Have_1_m0 (s : List Int) (t8 : Int) : St := ⟨fresh, [(0, AV.v (Ty.int IntKind.i64).sl (Md.bor true false) s), (1, AV.clo 119 []), (7, AV.v (Ty.int IntKind.i64) (Md.bor false true) (↑s.length : Int)), (8, AV.v (Ty.int IntKind.i64) (Md.bor false true) t8)]⟩
theorem slices_IndexFunc__term_Have_1_h0 (nf : Nat)  (s : List Int) (fu : Nat) (t8 : Int) : iter (fu + 1) (LC.F tab (slices_IndexFunc__term_Have_1_phi nf) (fun _ F => iter nf F) slices_IndexFunc__term_Have_1_keep 0 (slices_IndexFunc__term_Have_1_L0 nf )) (slices_IndexFunc__term_Have_1_m0 s t8) = slices_IndexFunc__term_Have_1_b0 nf  s  (fun t8 => iter fu (LC.F tab (slices_IndexFunc__term_Have_1_phi nf) (fun _ F => iter nf F) slices_IndexFunc__term_Have_1_keep 0 (slices_IndexFunc__term_Have_1_L0 nf )) (slices_IndexFunc__term_Have_1_m0 s t8)) t8 := by kernel_rfl
theorem slices_IndexFunc__term_Have_1_e0 (nf : Nat)  (s : List Int) : ∀ (fu : Nat) (t8 : Int), iter fu (LC.F tab (slices_IndexFunc__term_Have_1_phi nf) (fun _ F => iter nf F) slices_IndexFunc__term_Have_1_keep 0 (slices_IndexFunc__term_Have_1_L0 nf )) (slices_IndexFunc__term_Have_1_m0 s t8) = slices_IndexFunc__term_Have_1_l0 nf s  fu t8 := by
  intro fu
  induction fu with
  | zero => intros; rfl
  | succ fu ih =>
    intro t8
    rw [slices_IndexFunc__term_Have_1_h0 nf  s fu t8]
    simp only [ih]
    rfl
theorem slices_IndexFunc__term_Have_1_eq (nf : Nat) (s : List Int) (f : Unit) : runF tab (slices_IndexFunc__term_Have_1_phi nf) slices_IndexFunc__term_Have_1_keep nf [PT.val (Ty.int IntKind.i64).sl (Md.bor true false), PT.clo 119 []] [(Ty.int IntKind.i64, Md.bor false true)] (resL ([]) Try.f137) (codeOf Try.f137) ⟨s, f, ()⟩ = slices_IndexFunc__term_Have_1_f nf s f := by
  have h : runF tab (slices_IndexFunc__term_Have_1_phi nf) slices_IndexFunc__term_Have_1_keep nf [PT.val (Ty.int IntKind.i64).sl (Md.bor true false), PT.clo 119 []] [(Ty.int IntKind.i64, Md.bor false true)] (resL ([]) Try.f137) (codeOf Try.f137) ⟨s, f, ()⟩ = slices_IndexFunc__term_Have_1_p nf (fun p0 v0 => iter nf (LC.F tab (slices_IndexFunc__term_Have_1_phi nf) (fun _ F => iter nf F) slices_IndexFunc__term_Have_1_keep 0 (slices_IndexFunc__term_Have_1_L0 nf)) (slices_IndexFunc__term_Have_1_m0 p0 v0)) s f := by kernel_rfl
  rw [h]
  simp only [slices_IndexFunc__term_Have_1_e0]
  rfl
def slices_IndexFunc__term_Have_1_F (nf : Nat) (x : denPs [.val (.sl (.int .i64)) (.bor true false), .clo 119 []]) : Option (denL [(.int .i64, .bor false true)]) := slices_IndexFunc__term_Have_1_f nf x.1 x.2.1
def slices_IndexFunc__term_Have_1_C (nf : Nat) : Contract := ⟨[.val (.sl (.int .i64)) (.bor true false), .clo 119 []], [(.int .i64, .bor false true)], slices_IndexFunc__term_Have_1_F nf, []⟩
theorem slices_IndexFunc__term_Have_1_ok : FnOK Try.prog 137 := ⟨Try.f137, codeOf Try.f137, Try.func137, by kernel_rfl, by kernel_rfl⟩
theorem slices_IndexFunc__term_Have_1_holds (nf : Nat) : Contract.Holds Try.prog 137 (slices_IndexFunc__term_Have_1_C nf) :=
  fn_holds (Φ := slices_IndexFunc__term_Have_1_phi nf) (keep := slices_IndexFunc__term_Have_1_keep) (n := nf) ⟨tabs.1, tabs.2, (ctx_cons term_Have_1_ok (term_Have_1_holds nf) ctx_nil), mixed, bk_ok bkls rfl⟩ (fn := Try.f137) ⟨Try.func137, by kernel_rfl, by kernel_rfl, by kernel_rfl⟩ (fun x => slices_IndexFunc__term_Have_1_eq nf x.1 x.2.1)

/-! slices.ContainsFunc   int int  codemason term.Have 1 -/
def slices_ContainsFunc__term_Have_1_phi (nf : Nat) : Nat → Option Contract := lookC [(137, slices_IndexFunc__term_Have_1_C nf)]
def slices_ContainsFunc__term_Have_1_keep : Nat → List Nat := lookK []
def slices_ContainsFunc__term_Have_1_p (nf : Nat)  (s : List Int) (f : Unit) : Option (Bool × Unit) :=
  Option.bind (slices_IndexFunc__term_Have_1_f nf s (())) fun r =>
  some ((decide (r.fst ≥ 0), ()))
def slices_ContainsFunc__term_Have_1_f (nf : Nat) (s : List Int) (f : Unit) : Option (Bool × Unit) := slices_ContainsFunc__term_Have_1_p nf  s f
theorem slices_ContainsFunc__term_Have_1_eq (nf : Nat) (s : List Int) (f : Unit) : runF tab (slices_ContainsFunc__term_Have_1_phi nf) slices_ContainsFunc__term_Have_1_keep nf [PT.val (Ty.int IntKind.i64).sl (Md.bor true false), PT.clo 119 []] [(Ty.bool, Md.bor false true)] (resL ([]) Try.f118) (codeOf Try.f118) ⟨s, f, ()⟩ = slices_ContainsFunc__term_Have_1_f nf s f := by
  have h : runF tab (slices_ContainsFunc__term_Have_1_phi nf) slices_ContainsFunc__term_Have_1_keep nf [PT.val (Ty.int IntKind.i64).sl (Md.bor true false), PT.clo 119 []] [(Ty.bool, Md.bor false true)] (resL ([]) Try.f118) (codeOf Try.f118) ⟨s, f, ()⟩ = slices_ContainsFunc__term_Have_1_p nf  s f := by kernel_rfl
  exact h
def slices_ContainsFunc__term_Have_1_F (nf : Nat) (x : denPs [.val (.sl (.int .i64)) (.bor true false), .clo 119 []]) : Option (denL [(.bool, .bor false true)]) := slices_ContainsFunc__term_Have_1_f nf x.1 x.2.1
def slices_ContainsFunc__term_Have_1_C (nf : Nat) : Contract := ⟨[.val (.sl (.int .i64)) (.bor true false), .clo 119 []], [(.bool, .bor false true)], slices_ContainsFunc__term_Have_1_F nf, []⟩
theorem slices_ContainsFunc__term_Have_1_ok : FnOK Try.prog 118 := ⟨Try.f118, codeOf Try.f118, Try.func118, by kernel_rfl, by kernel_rfl⟩
theorem slices_ContainsFunc__term_Have_1_holds (nf : Nat) : Contract.Holds Try.prog 118 (slices_ContainsFunc__term_Have_1_C nf) :=
  fn_holds (Φ := slices_ContainsFunc__term_Have_1_phi nf) (keep := slices_ContainsFunc__term_Have_1_keep) (n := nf) ⟨tabs.1, tabs.2, (ctx_cons slices_IndexFunc__term_Have_1_ok (slices_IndexFunc__term_Have_1_holds nf) ctx_nil), mixed, bk_ok bkls rfl⟩ (fn := Try.f118) ⟨Try.func118, by kernel_rfl, by kernel_rfl, by kernel_rfl⟩ (fun x => slices_ContainsFunc__term_Have_1_eq nf x.1 x.2.1)

/-! codemason term.Have -/
def term_Have_phi (nf : Nat) : Nat → Option Contract := lookC [(118, slices_ContainsFunc__term_Have_1_C nf)]
def term_Have_keep : Nat → List Nat := lookK []
def term_Have_p (nf : Nat)  (vars : Int) (have' : List Int) : Option (Int × Unit) :=
  bif (↑have'.length : Int) != vars then
    some ((3, ()))
  else
    Option.bind (slices_ContainsFunc__term_Have_1_f nf have' (())) fun r =>
    bif r.fst then
      some ((4, ()))
    else
      some ((0, ()))
def term_Have_f (nf : Nat) (vars : Int) (have' : List Int) : Option (Int × Unit) := term_Have_p nf  vars have'
theorem term_Have_eq (nf : Nat) (vars : Int) (have' : List Int) : runF tab (term_Have_phi nf) term_Have_keep nf [PT.val (Ty.int IntKind.i64) (Md.bor true false), PT.val (Ty.int IntKind.i64).sl (Md.bor true false)] [(Ty.int IntKind.i64, Md.bor false true)] (resL ([]) Try.f68) (codeOf Try.f68) ⟨vars, have', ()⟩ = term_Have_f nf vars have' := by
  have h : runF tab (term_Have_phi nf) term_Have_keep nf [PT.val (Ty.int IntKind.i64) (Md.bor true false), PT.val (Ty.int IntKind.i64).sl (Md.bor true false)] [(Ty.int IntKind.i64, Md.bor false true)] (resL ([]) Try.f68) (codeOf Try.f68) ⟨vars, have', ()⟩ = term_Have_p nf  vars have' := by kernel_rfl
  exact h
def term_Have_F (nf : Nat) (x : denPs [.val (.int .i64) (.bor true false), .val (.sl (.int .i64)) (.bor true false)]) : Option (denL [(.int .i64, .bor false true)]) := term_Have_f nf x.1 x.2.1
def term_Have_C (nf : Nat) : Contract := ⟨[.val (.int .i64) (.bor true false), .val (.sl (.int .i64)) (.bor true false)], [(.int .i64, .bor false true)], term_Have_F nf, []⟩
theorem term_Have_ok : FnOK Try.prog 68 := ⟨Try.f68, codeOf Try.f68, Try.func68, by kernel_rfl, by kernel_rfl⟩
theorem term_Have_holds (nf : Nat) : Contract.Holds Try.prog 68 (term_Have_C nf) :=
  fn_holds (Φ := term_Have_phi nf) (keep := term_Have_keep) (n := nf) ⟨tabs.1, tabs.2, (ctx_cons slices_ContainsFunc__term_Have_1_ok (slices_ContainsFunc__term_Have_1_holds nf) ctx_nil), mixed, bk_ok bkls rfl⟩ (fn := Try.f68) ⟨Try.func68, by kernel_rfl, by kernel_rfl, by kernel_rfl⟩ (fun x => term_Have_eq nf x.1 x.2.1)

/-! codemason codemasonref.HaveCheck -/
def ref_HaveCheck_phi (nf : Nat) : Nat → Option Contract := lookC [(96, ref_Value_C nf)]
def ref_HaveCheck_keep : Nat → List Nat := lookK [(0, [1, 11, 12, 13])]
def ref_HaveCheck_b0 (nf : Nat) (have' : List Int) (g0 : Int → Option (Int × Unit)) (t13 : Int) : Option (Int × Unit) :=
  bif decide (t13 < (↑have'.length : Int)) then
    bif inb t13 have'.length then
      Option.bind (ref_Value_f nf (have'.getD t13.toNat 0)) fun r =>
      bif !r.fst then
        some ((4, ()))
      else
        g0 (IntKind.i64.wrap (t13 + 1))
    else
      none
  else
    some ((0, ()))
def ref_HaveCheck_p (nf : Nat) (l0 : List Int → Int → Option (Int × Unit)) (vars : Int) (have' : List Int) : Option (Int × Unit) :=
  bif (↑have'.length : Int) != vars then
    some ((3, ()))
  else
    l0 have' 0
def ref_HaveCheck_l0 (nf : Nat) (have' : List Int) : Nat → Int → Option (Int × Unit)
  | 0, _ => none
  | fu + 1, t13 => ref_HaveCheck_b0 nf  have'  (ref_HaveCheck_l0 nf have'  fu) t13
def ref_HaveCheck_f (nf : Nat) (vars : Int) (have' : List Int) : Option (Int × Unit) := ref_HaveCheck_p nf (fun p0 v0 => ref_HaveCheck_l0 nf p0 nf v0) vars have'
noncomputable def ref_HaveCheck_L0 (nf : Nat) : LC (Int × Unit) := theL (findL tab (ref_HaveCheck_phi nf) (fun _ F => iter nf F) ref_HaveCheck_keep 0 0 (codeOf Try.f50) (fin tab [(Ty.int IntKind.i64, Md.bor false true)] (resL ([]) Try.f50)) (fun _ _ => none) (fin tab [(Ty.int IntKind.i64, Md.bor false true)] (resL ([]) Try.f50)))
def ref_HaveCheck_m0 (have' : List Int) (t13 : Int) : St := ⟨fresh, [(1, AV.v (Ty.int IntKind.i64).sl (Md.bor true false) have'), (11, AV.v (Ty.int IntKind.i64).sl (Md.bor true false) have'), (12, AV.v (Ty.int IntKind.i64) (Md.bor false true) (↑have'.length : Int)), (13, AV.v (Ty.int IntKind.i64) (Md.bor false true) t13)]⟩
theorem ref_HaveCheck_h0 (nf : Nat)  (have' : List Int) (fu : Nat) (t13 : Int) : iter (fu + 1) (LC.F tab (ref_HaveCheck_phi nf) (fun _ F => iter nf F) ref_HaveCheck_keep 0 (ref_HaveCheck_L0 nf )) (ref_HaveCheck_m0 have' t13) = ref_HaveCheck_b0 nf  have'  (fun t13 => iter fu (LC.F tab (ref_HaveCheck_phi nf) (fun _ F => iter nf F) ref_HaveCheck_keep 0 (ref_HaveCheck_L0 nf )) (ref_HaveCheck_m0 have' t13)) t13 := by kernel_rfl
theorem ref_HaveCheck_e0 (nf : Nat)  (have' : List Int) : ∀ (fu : Nat) (t13 : Int), iter fu (LC.F tab (ref_HaveCheck_phi nf) (fun _ F => iter nf F) ref_HaveCheck_keep 0 (ref_HaveCheck_L0 nf )) (ref_HaveCheck_m0 have' t13) = ref_HaveCheck_l0 nf have'  fu t13 := by
  intro fu
  induction fu with
  | zero => intros; rfl
  | succ fu ih =>
    intro t13
    rw [ref_HaveCheck_h0 nf  have' fu t13]
    simp only [ih]
    rfl
theorem ref_HaveCheck_eq (nf : Nat) (vars : Int) (have' : List Int) : runF tab (ref_HaveCheck_phi nf) ref_HaveCheck_keep nf [PT.val (Ty.int IntKind.i64) (Md.bor true false), PT.val (Ty.int IntKind.i64).sl (Md.bor true false)] [(Ty.int IntKind.i64, Md.bor false true)] (resL ([]) Try.f50) (codeOf Try.f50) ⟨vars, have', ()⟩ = ref_HaveCheck_f nf vars have' := by
  have h : runF tab (ref_HaveCheck_phi nf) ref_HaveCheck_keep nf [PT.val (Ty.int IntKind.i64) (Md.bor true false), PT.val (Ty.int IntKind.i64).sl (Md.bor true false)] [(Ty.int IntKind.i64, Md.bor false true)] (resL ([]) Try.f50) (codeOf Try.f50) ⟨vars, have', ()⟩ = ref_HaveCheck_p nf (fun p0 v0 => iter nf (LC.F tab (ref_HaveCheck_phi nf) (fun _ F => iter nf F) ref_HaveCheck_keep 0 (ref_HaveCheck_L0 nf)) (ref_HaveCheck_m0 p0 v0)) vars have' := by kernel_rfl
  rw [h]
  simp only [ref_HaveCheck_e0]
  rfl
def ref_HaveCheck_F (nf : Nat) (x : denPs [.val (.int .i64) (.bor true false), .val (.sl (.int .i64)) (.bor true false)]) : Option (denL [(.int .i64, .bor false true)]) := ref_HaveCheck_f nf x.1 x.2.1
def ref_HaveCheck_C (nf : Nat) : Contract := ⟨[.val (.int .i64) (.bor true false), .val (.sl (.int .i64)) (.bor true false)], [(.int .i64, .bor false true)], ref_HaveCheck_F nf, []⟩
theorem ref_HaveCheck_ok : FnOK Try.prog 50 := ⟨Try.f50, codeOf Try.f50, Try.func50, by kernel_rfl, by kernel_rfl⟩
theorem ref_HaveCheck_holds (nf : Nat) : Contract.Holds Try.prog 50 (ref_HaveCheck_C nf) :=
  fn_holds (Φ := ref_HaveCheck_phi nf) (keep := ref_HaveCheck_keep) (n := nf) ⟨tabs.1, tabs.2, (ctx_cons ref_Value_ok (ref_Value_holds nf) ctx_nil), mixed, bk_ok bkls rfl⟩ (fn := Try.f50) ⟨Try.func50, by kernel_rfl, by kernel_rfl, by kernel_rfl⟩ (fun x => ref_HaveCheck_eq nf x.1 x.2.1)

/-! codemason codemasonref.Op -/
def ref_Op_phi (nf : Nat) : Nat → Option Contract := lookC []
def ref_Op_keep : Nat → List Nat := lookK []
def ref_Op_p (nf : Nat)  (op : Int) (a : Int) (b : Int) : Option (Int × Unit) :=
  bif op == 3 then
    bif op == 4 then
      bif op == 5 then
        bif op == 6 then
          bif decide (a < b) then
            some ((Int.tmod 1 256, ()))
          else
            some (((IntKind.i64.wrap (a * b)).tmod 256, ()))
        else
          some (((IntKind.i64.wrap (a * b)).tmod 256, ()))
      else
        bif op == 6 then
          bif decide (a < b) then
            some ((Int.tmod 1 256, ()))
          else
            some (((IntKind.i64.wrap (IntKind.i64.wrap (a - b) + 256)).tmod 256, ()))
        else
          some (((IntKind.i64.wrap (IntKind.i64.wrap (a - b) + 256)).tmod 256, ()))
    else
      bif op == 5 then
        bif op == 6 then
          bif decide (a < b) then
            some ((Int.tmod 1 256, ()))
          else
            some (((IntKind.i64.wrap (a * b)).tmod 256, ()))
        else
          some (((IntKind.i64.wrap (a * b)).tmod 256, ()))
      else
        bif op == 6 then
          bif decide (a < b) then
            some ((Int.tmod 1 256, ()))
          else
            some (((IntKind.i64.wrap (a + b)).tmod 256, ()))
        else
          some (((IntKind.i64.wrap (a + b)).tmod 256, ()))
  else
    bif op == 4 then
      bif op == 5 then
        bif op == 6 then
          bif decide (a < b) then
            some ((Int.tmod 1 256, ()))
          else
            some (((IntKind.i64.wrap (a * b)).tmod 256, ()))
        else
          some (((IntKind.i64.wrap (a * b)).tmod 256, ()))
      else
        bif op == 6 then
          bif decide (a < b) then
            some ((Int.tmod 1 256, ()))
          else
            some (((IntKind.i64.wrap (IntKind.i64.wrap (a - b) + 256)).tmod 256, ()))
        else
          some (((IntKind.i64.wrap (IntKind.i64.wrap (a - b) + 256)).tmod 256, ()))
    else
      bif op == 5 then
        bif op == 6 then
          bif decide (a < b) then
            some ((Int.tmod 1 256, ()))
          else
            some (((IntKind.i64.wrap (a * b)).tmod 256, ()))
        else
          some (((IntKind.i64.wrap (a * b)).tmod 256, ()))
      else
        bif op == 6 then
          bif decide (a < b) then
            some ((Int.tmod 1 256, ()))
          else
            some ((Int.tmod 0 256, ()))
        else
          some ((Int.tmod 0 256, ()))
def ref_Op_f (nf : Nat) (op : Int) (a : Int) (b : Int) : Option (Int × Unit) := ref_Op_p nf  op a b
theorem ref_Op_eq (nf : Nat) (op : Int) (a : Int) (b : Int) : runF tab (ref_Op_phi nf) ref_Op_keep nf [PT.val (Ty.int IntKind.i64) (Md.bor true false), PT.val (Ty.int IntKind.i64) (Md.bor true false), PT.val (Ty.int IntKind.i64) (Md.bor true false)] [(Ty.int IntKind.i64, Md.bor false true)] (resL ([]) Try.f114) (codeOf Try.f114) ⟨op, a, b, ()⟩ = ref_Op_f nf op a b := by
  have h : runF tab (ref_Op_phi nf) ref_Op_keep nf [PT.val (Ty.int IntKind.i64) (Md.bor true false), PT.val (Ty.int IntKind.i64) (Md.bor true false), PT.val (Ty.int IntKind.i64) (Md.bor true false)] [(Ty.int IntKind.i64, Md.bor false true)] (resL ([]) Try.f114) (codeOf Try.f114) ⟨op, a, b, ()⟩ = ref_Op_p nf  op a b := by kernel_rfl
  exact h
def ref_Op_F (nf : Nat) (x : denPs [.val (.int .i64) (.bor true false), .val (.int .i64) (.bor true false), .val (.int .i64) (.bor true false)]) : Option (denL [(.int .i64, .bor false true)]) := ref_Op_f nf x.1 x.2.1 x.2.2.1
def ref_Op_C (nf : Nat) : Contract := ⟨[.val (.int .i64) (.bor true false), .val (.int .i64) (.bor true false), .val (.int .i64) (.bor true false)], [(.int .i64, .bor false true)], ref_Op_F nf, []⟩
theorem ref_Op_ok : FnOK Try.prog 114 := ⟨Try.f114, codeOf Try.f114, Try.func114, by kernel_rfl, by kernel_rfl⟩
theorem ref_Op_holds (nf : Nat) : Contract.Holds Try.prog 114 (ref_Op_C nf) :=
  fn_holds (Φ := ref_Op_phi nf) (keep := ref_Op_keep) (n := nf) ⟨tabs.1, tabs.2, ctx_nil, mixed, bk_ok bkls rfl⟩ (fn := Try.f114) ⟨Try.func114, by kernel_rfl, by kernel_rfl, by kernel_rfl⟩ (fun x => ref_Op_eq nf x.1 x.2.1 x.2.2.1)

/-! codemason codemasonref.Ints -/
def ref_Ints_phi (nf : Nat) : Nat → Option Contract := lookC []
def ref_Ints_keep : Nat → List Nat := lookK [(0, [0, 1, 5])]
def ref_Ints_b0 (nf : Nat) (a : List Int) (b : List Int) (g0 : Int → Option (Bool × Unit)) (i : Int) : Option (Bool × Unit) :=
  bif decide (i < (↑a.length : Int)) then
    bif inb i a.length then
      bif inb i b.length then
        bif a.getD i.toNat 0 != b.getD i.toNat 0 then
          some ((false, ()))
        else
          g0 (IntKind.i64.wrap (i + 1))
      else
        none
    else
      none
  else
    some ((true, ()))
def ref_Ints_p (nf : Nat) (l0 : List Int → List Int → Int → Option (Bool × Unit)) (a : List Int) (b : List Int) : Option (Bool × Unit) :=
  bif (↑a.length : Int) != (↑b.length : Int) then
    some ((false, ()))
  else
    l0 a b 0
def ref_Ints_l0 (nf : Nat) (a : List Int) (b : List Int) : Nat → Int → Option (Bool × Unit)
  | 0, _ => none
  | fu + 1, i => ref_Ints_b0 nf  a b  (ref_Ints_l0 nf a b  fu) i
def ref_Ints_f (nf : Nat) (a : List Int) (b : List Int) : Option (Bool × Unit) := ref_Ints_p nf (fun p0 p1 v0 => ref_Ints_l0 nf p0 p1 nf v0) a b
noncomputable def ref_Ints_L0 (nf : Nat) : LC (Bool × Unit) := theL (findL tab (ref_Ints_phi nf) (fun _ F => iter nf F) ref_Ints_keep 0 0 (codeOf Try.f27) (fin tab [(Ty.bool, Md.bor false true)] (resL ([]) Try.f27)) (fun _ _ => none) (fin tab [(Ty.bool, Md.bor false true)] (resL ([]) Try.f27)))
def ref_Ints_m0 (a : List Int) (b : List Int) (i : Int) : St := ⟨fresh, [(0, AV.v (Ty.int IntKind.i64).sl (Md.bor true false) a), (1, AV.v (Ty.int IntKind.i64).sl (Md.bor true false) b), (5, AV.v (Ty.int IntKind.i64) (Md.bor false true) i)]⟩
theorem ref_Ints_h0 (nf : Nat)  (a : List Int) (b : List Int) (fu : Nat) (i : Int) : iter (fu + 1) (LC.F tab (ref_Ints_phi nf) (fun _ F => iter nf F) ref_Ints_keep 0 (ref_Ints_L0 nf )) (ref_Ints_m0 a b i) = ref_Ints_b0 nf  a b  (fun i => iter fu (LC.F tab (ref_Ints_phi nf) (fun _ F => iter nf F) ref_Ints_keep 0 (ref_Ints_L0 nf )) (ref_Ints_m0 a b i)) i := by kernel_rfl
theorem ref_Ints_e0 (nf : Nat)  (a : List Int) (b : List Int) : ∀ (fu : Nat) (i : Int), iter fu (LC.F tab (ref_Ints_phi nf) (fun _ F => iter nf F) ref_Ints_keep 0 (ref_Ints_L0 nf )) (ref_Ints_m0 a b i) = ref_Ints_l0 nf a b  fu i := by
  intro fu
  induction fu with
  | zero => intros; rfl
  | succ fu ih =>
    intro i
    rw [ref_Ints_h0 nf  a b fu i]
    simp only [ih]
    rfl
theorem ref_Ints_eq (nf : Nat) (a : List Int) (b : List Int) : runF tab (ref_Ints_phi nf) ref_Ints_keep nf [PT.val (Ty.int IntKind.i64).sl (Md.bor true false), PT.val (Ty.int IntKind.i64).sl (Md.bor true false)] [(Ty.bool, Md.bor false true)] (resL ([]) Try.f27) (codeOf Try.f27) ⟨a, b, ()⟩ = ref_Ints_f nf a b := by
  have h : runF tab (ref_Ints_phi nf) ref_Ints_keep nf [PT.val (Ty.int IntKind.i64).sl (Md.bor true false), PT.val (Ty.int IntKind.i64).sl (Md.bor true false)] [(Ty.bool, Md.bor false true)] (resL ([]) Try.f27) (codeOf Try.f27) ⟨a, b, ()⟩ = ref_Ints_p nf (fun p0 p1 v0 => iter nf (LC.F tab (ref_Ints_phi nf) (fun _ F => iter nf F) ref_Ints_keep 0 (ref_Ints_L0 nf)) (ref_Ints_m0 p0 p1 v0)) a b := by kernel_rfl
  rw [h]
  simp only [ref_Ints_e0]
  rfl
def ref_Ints_F (nf : Nat) (x : denPs [.val (.sl (.int .i64)) (.bor true false), .val (.sl (.int .i64)) (.bor true false)]) : Option (denL [(.bool, .bor false true)]) := ref_Ints_f nf x.1 x.2.1
def ref_Ints_C (nf : Nat) : Contract := ⟨[.val (.sl (.int .i64)) (.bor true false), .val (.sl (.int .i64)) (.bor true false)], [(.bool, .bor false true)], ref_Ints_F nf, []⟩
theorem ref_Ints_ok : FnOK Try.prog 27 := ⟨Try.f27, codeOf Try.f27, Try.func27, by kernel_rfl, by kernel_rfl⟩
theorem ref_Ints_holds (nf : Nat) : Contract.Holds Try.prog 27 (ref_Ints_C nf) :=
  fn_holds (Φ := ref_Ints_phi nf) (keep := ref_Ints_keep) (n := nf) ⟨tabs.1, tabs.2, ctx_nil, mixed, bk_ok bkls rfl⟩ (fn := Try.f27) ⟨Try.func27, by kernel_rfl, by kernel_rfl, by kernel_rfl⟩ (fun x => ref_Ints_eq nf x.1 x.2.1)
end
end Go.Proofs.Ytokjogplnoeicaa.S
