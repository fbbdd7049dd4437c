/- The functions of the code, as plain functions, and the theorems that say so: made by a program of this proof's own. -/
import Derived.Test.YtkcnmbcefbeldaaAbCheck
import Derived.Test.YtkcnmbcefbeldaaChecked
namespace Go.Proofs.Ytkcnmbcefbeldaa.S
open Go Go.Ab
noncomputable section
def bkl : List (Nat × Bk) := []
def tab : Tab := ⟨lookT [(2, .int .i64), (3, .int .i64), (4, .bool), (5, .int .u8), (6, .int .u8), (7, .pair (.int .i64) (.pair (.int .i64) (.pair (.bool) (.pair (.int .u8) (.unit))))), (8, .pair (.int .i64) (.pair (.int .i64) (.pair (.bool) (.pair (.int .u8) (.unit))))), (12, .int .u64), (21, .int .i32), (22, .sl (.pair (.int .i64) (.pair (.int .i64) (.unit)))), (23, .sl (.int .i64)), (24, .int .i64), (35, .int .u32), (43, .sl (.pair (.int .i64) (.pair (.int .i64) (.unit)))), (48, .sl (.int .u8)), (49, .sl (.pair (.int .i64) (.pair (.int .i64) (.pair (.int .i64) (.pair (.int .i64) (.pair (.int .i64) (.unit))))))), (53, .pair (.int .i64) (.pair (.int .i64) (.pair (.int .i64) (.pair (.int .i64) (.pair (.int .i64) (.unit)))))), (54, .pair (.int .i64) (.pair (.int .i64) (.pair (.int .i64) (.pair (.int .i64) (.pair (.int .i64) (.unit)))))), (56, .sl (.int .u32)), (61, .pair (.int .i64) (.pair (.int .i64) (.unit))), (64, .mp (.int .u32) (.bool)), (67, .int .u64), (77, .pair (.sl (.int .i64)) (.pair (.sl (.int .i64)) (.unit))), (78, .pair (.sl (.int .i64)) (.pair (.sl (.int .i64)) (.unit))), (79, .pair (.int .i64) (.pair (.int .i64) (.unit))), (80, .pair (.int .i64) (.pair (.int .i64) (.unit))), (84, .sl (.sl (.int .i64))), (88, .sl (.bool)), (96, .int .u8), (97, .int .u8), (100, .int .i32), (101, .int .i32)], lookM [(2, .bor false true), (3, .bor false true), (4, .bor false true), (5, .bor false true), (6, .bor false true), (7, .bor false true), (8, .bor false true), (12, .bor false true), (21, .bor false true), (22, .own false (.bor false false)), (23, .own false (.bor false false)), (24, .bor false true), (35, .bor false true), (43, .own false (.bor false false)), (48, .own false (.bor false false)), (49, .own false (.bor false false)), (53, .bor false true), (54, .bor false true), (56, .own false (.bor false false)), (61, .bor false true), (64, .own false (.bor false false)), (67, .bor false true), (77, .bor true false), (78, .pair (.own false (.bor false false)) (.pair (.own false (.bor false false)) (.bor false false))), (79, .bor false true), (80, .bor false true), (84, .own false (.bor false false)), (88, .own false (.bor false false)), (96, .bor false true), (97, .bor false true), (100, .bor false true), (101, .bor false true)], hasT [61, 92], hasT [9, 10, 11], fun _ => none, lookB bkl⟩
theorem bkls : BkL Try.prog bkl := fun _ h => by cases h
theorem tabs : TabOK Try.prog tab ∧ EqOK Try.prog tab := tab_ok (by kernel_rfl) (by kernel_rfl)
theorem mixed : Try.prog.follows .mixedOrders = true := by kernel_rfl

/-! codemason color.clashes -/
def color_clashes_phi (nf : Nat) : Nat → Option Contract := lookC []
def color_clashes_keep : Nat → List Nat := lookK [(2, [1, 6, 23, 46, 47, 48]), (0, [0, 1, 6, 23, 24, 25, 26])]
def color_clashes_b0 (nf : Nat) (l2 : List (Int × Int × Unit) → List Int → Int → Option (List Int × Int × Unit)) (n' : Int) (pairs : List (Int × Int × Unit)) (g0 : List Int → Int → Option (List Int × Int × Unit)) (with' : List Int) (t26 : Int) : Option (List Int × Int × Unit) :=
  bif decide (t26 < (↑pairs.length : Int)) then
    bif inb t26 pairs.length then
      bif decide ((if (pairs.getD t26.toNat (0, 0, ())).snd.fst < (pairs.getD t26.toNat (0, 0, ())).fst then (pairs.getD t26.toNat (0, 0, ())).snd.fst else (pairs.getD t26.toNat (0, 0, ())).fst) < 0) then
        some (([], 2, ()))
      else
        bif decide ((if (pairs.getD t26.toNat (0, 0, ())).snd.fst > (pairs.getD t26.toNat (0, 0, ())).fst then (pairs.getD t26.toNat (0, 0, ())).snd.fst else (pairs.getD t26.toNat (0, 0, ())).fst) ≥ n') then
          some (([], 2, ()))
        else
          g0 with' (IntKind.i64.wrap (t26 + 1))
    else
      none
  else
    l2 pairs with' 0
def color_clashes_b2 (nf : Nat) (pairs : List (Int × Int × Unit)) (g2 : List Int → Int → Option (List Int × Int × Unit)) (with'2 : List Int) (t48 : Int) : Option (List Int × Int × Unit) :=
  bif decide (t48 < (↑pairs.length : Int)) then
    bif inb t48 pairs.length then
      bif (pairs.getD t48.toNat (0, 0, ())).fst == (pairs.getD t48.toNat (0, 0, ())).snd.fst then
        some (([], 3, ()))
      else
        bif inb (pairs.getD t48.toNat (0, 0, ())).fst with'2.length then
          bif decide (0 ≤ (pairs.getD t48.toNat (0, 0, ())).snd.fst) then
            bif inb (pairs.getD t48.toNat (0, 0, ())).fst with'2.length then
              bif inb (pairs.getD t48.toNat (0, 0, ())).snd.fst (with'2.set (Int.toNat (pairs.getD t48.toNat (0, 0, ())).fst) (IntKind.u32.wrap (↑(BitVec.ofInt IntKind.u32.bits (with'2.getD (Int.toNat (pairs.getD t48.toNat (0, 0, ())).fst) 0) ||| BitVec.ofInt IntKind.u32.bits (shlI IntKind.u32 1 (pairs.getD t48.toNat (0, 0, ())).snd.fst)).toNat : Int))).length then
                bif decide (0 ≤ (pairs.getD t48.toNat (0, 0, ())).fst) then
                  bif inb (pairs.getD t48.toNat (0, 0, ())).snd.fst (with'2.set (Int.toNat (pairs.getD t48.toNat (0, 0, ())).fst) (IntKind.u32.wrap (↑(BitVec.ofInt IntKind.u32.bits (with'2.getD (Int.toNat (pairs.getD t48.toNat (0, 0, ())).fst) 0) ||| BitVec.ofInt IntKind.u32.bits (shlI IntKind.u32 1 (pairs.getD t48.toNat (0, 0, ())).snd.fst)).toNat : Int))).length then
                    g2 ((with'2.set (Int.toNat (pairs.getD t48.toNat (0, 0, ())).fst) (IntKind.u32.wrap (↑(BitVec.ofInt IntKind.u32.bits (with'2.getD (Int.toNat (pairs.getD t48.toNat (0, 0, ())).fst) 0) ||| BitVec.ofInt IntKind.u32.bits (shlI IntKind.u32 1 (pairs.getD t48.toNat (0, 0, ())).snd.fst)).toNat : Int))).set (Int.toNat (pairs.getD t48.toNat (0, 0, ())).snd.fst) (IntKind.u32.wrap (↑(BitVec.ofInt IntKind.u32.bits ((with'2.set (Int.toNat (pairs.getD t48.toNat (0, 0, ())).fst) (IntKind.u32.wrap (↑(BitVec.ofInt IntKind.u32.bits (with'2.getD (Int.toNat (pairs.getD t48.toNat (0, 0, ())).fst) 0) ||| BitVec.ofInt IntKind.u32.bits (shlI IntKind.u32 1 (pairs.getD t48.toNat (0, 0, ())).snd.fst)).toNat : Int))).getD (Int.toNat (pairs.getD t48.toNat (0, 0, ())).snd.fst) 0) ||| BitVec.ofInt IntKind.u32.bits (shlI IntKind.u32 1 (pairs.getD t48.toNat (0, 0, ())).fst)).toNat : Int))) (IntKind.i64.wrap (t48 + 1))
                  else
                    none
                else
                  none
              else
                none
            else
              none
          else
            none
        else
          none
    else
      none
  else
    some ((with'2, 0, ()))
def color_clashes_p (nf : Nat) (l0 : Int → List (Int × Int × Unit) → List Int → Int → Option (List Int × Int × Unit)) (n' : Int) (pairs : List (Int × Int × Unit)) : Option (List Int × Int × Unit) :=
  bif decide (n' < 1) then
    some (([], 1, ()))
  else
    bif decide (n' > 8) then
      some (([], 1, ()))
    else
      bif decide ((↑pairs.length : Int) > 28) then
        some (([], 1, ()))
      else
        bif decide (0 ≤ n') && decide (n' ≤ n') && decide (n' ≤ (↑lim : Int)) then
          l0 n' pairs (List.replicate n'.toNat 0) 0
        else
          none
def color_clashes_l2 (nf : Nat) (pairs : List (Int × Int × Unit)) : Nat → List Int → Int → Option (List Int × Int × Unit)
  | 0, _, _ => none
  | fu + 1, with'2, t48 => color_clashes_b2 nf  pairs  (color_clashes_l2 nf pairs  fu) with'2 t48
def color_clashes_l0 (nf : Nat) (n' : Int) (pairs : List (Int × Int × Unit)) : Nat → List Int → Int → Option (List Int × Int × Unit)
  | 0, _, _ => none
  | fu + 1, with', t26 => color_clashes_b0 nf (fun _ v0 v1 => color_clashes_l2 nf pairs  nf v0 v1) n' pairs  (color_clashes_l0 nf n' pairs  fu) with' t26
def color_clashes_f (nf : Nat) (n' : Int) (pairs : List (Int × Int × Unit)) : Option (List Int × Int × Unit) := color_clashes_p nf (fun p0 p1 v0 v1 => color_clashes_l0 nf p0 p1 nf v0 v1) n' pairs
noncomputable def color_clashes_L0 (nf : Nat) : LC (List Int × Int × Unit) := theL (findL tab (color_clashes_phi nf) (fun _ F => iter nf F) color_clashes_keep 0 0 (codeOf Try.f28) (fin tab [((Ty.int IntKind.u32).sl, Md.own false (Md.bor false false)), (Ty.int IntKind.i64, Md.bor false true)] (resL ([]) Try.f28)) (fun _ _ => none) (fin tab [((Ty.int IntKind.u32).sl, Md.own false (Md.bor false false)), (Ty.int IntKind.i64, Md.bor false true)] (resL ([]) Try.f28)))
def color_clashes_m0 (n' : Int) (pairs : List (Int × Int × Unit)) (with' : List Int) (t26 : Int) : St := ⟨fresh, [(0, AV.v (Ty.int IntKind.i64) (Md.bor false true) n'), (1, AV.v ((Ty.int IntKind.i64).pair ((Ty.int IntKind.i64).pair Ty.unit)).sl (Md.bor true false) pairs), (6, AV.ow 500006 (Ty.int IntKind.u32).sl (Md.own false (Md.bor false false)) with'), (23, AV.dead), (24, AV.v ((Ty.int IntKind.i64).pair ((Ty.int IntKind.i64).pair Ty.unit)).sl (Md.bor true false) pairs), (25, AV.v (Ty.int IntKind.i64) (Md.bor false true) (↑pairs.length : Int)), (26, AV.v (Ty.int IntKind.i64) (Md.bor false true) t26)]⟩
noncomputable def color_clashes_L2 (nf : Nat) : LC (List Int × Int × Unit) := theL (findL tab (color_clashes_phi nf) (fun _ F => iter nf F) color_clashes_keep 2 0 (codeOf Try.f28) (fin tab [((Ty.int IntKind.u32).sl, Md.own false (Md.bor false false)), (Ty.int IntKind.i64, Md.bor false true)] (resL ([]) Try.f28)) (fun _ _ => none) (fin tab [((Ty.int IntKind.u32).sl, Md.own false (Md.bor false false)), (Ty.int IntKind.i64, Md.bor false true)] (resL ([]) Try.f28)))
def color_clashes_m2 (pairs : List (Int × Int × Unit)) (with'2 : List Int) (t48 : Int) : St := ⟨fresh, [(1, AV.v ((Ty.int IntKind.i64).pair ((Ty.int IntKind.i64).pair Ty.unit)).sl (Md.bor true false) pairs), (6, AV.ow 500006 (Ty.int IntKind.u32).sl (Md.own false (Md.bor false false)) with'2), (23, AV.dead), (46, AV.v ((Ty.int IntKind.i64).pair ((Ty.int IntKind.i64).pair Ty.unit)).sl (Md.bor true false) pairs), (47, AV.v (Ty.int IntKind.i64) (Md.bor false true) (↑pairs.length : Int)), (48, AV.v (Ty.int IntKind.i64) (Md.bor false true) t48)]⟩
theorem color_clashes_h2 (nf : Nat)  (pairs : List (Int × Int × Unit)) (fu : Nat) (with'2 : List Int) (t48 : Int) : iter (fu + 1) (LC.F tab (color_clashes_phi nf) (fun _ F => iter nf F) color_clashes_keep 2 (color_clashes_L2 nf )) (color_clashes_m2 pairs with'2 t48) = color_clashes_b2 nf  pairs  (fun with'2 t48 => iter fu (LC.F tab (color_clashes_phi nf) (fun _ F => iter nf F) color_clashes_keep 2 (color_clashes_L2 nf )) (color_clashes_m2 pairs with'2 t48)) with'2 t48 := by kernel_rfl
theorem color_clashes_e2 (nf : Nat)  (pairs : List (Int × Int × Unit)) : ∀ (fu : Nat) (with'2 : List Int) (t48 : Int), iter fu (LC.F tab (color_clashes_phi nf) (fun _ F => iter nf F) color_clashes_keep 2 (color_clashes_L2 nf )) (color_clashes_m2 pairs with'2 t48) = color_clashes_l2 nf pairs  fu with'2 t48 := by
  intro fu
  induction fu with
  | zero => intros; rfl
  | succ fu ih =>
    intro with'2 t48
    rw [color_clashes_h2 nf  pairs fu with'2 t48]
    simp only [ih]
    rfl
theorem color_clashes_h0 (nf : Nat)  (n' : Int) (pairs : List (Int × Int × Unit)) (fu : Nat) (with' : List Int) (t26 : Int) : iter (fu + 1) (LC.F tab (color_clashes_phi nf) (fun _ F => iter nf F) color_clashes_keep 0 (color_clashes_L0 nf )) (color_clashes_m0 n' pairs with' t26) = color_clashes_b0 nf (fun _ v0 v1 => iter nf (LC.F tab (color_clashes_phi nf) (fun _ F => iter nf F) color_clashes_keep 2 (color_clashes_L2 nf )) (color_clashes_m2 pairs v0 v1)) n' pairs  (fun with' t26 => iter fu (LC.F tab (color_clashes_phi nf) (fun _ F => iter nf F) color_clashes_keep 0 (color_clashes_L0 nf )) (color_clashes_m0 n' pairs with' t26)) with' t26 := by kernel_rfl
theorem color_clashes_e0 (nf : Nat)  (n' : Int) (pairs : List (Int × Int × Unit)) : ∀ (fu : Nat) (with' : List Int) (t26 : Int), iter fu (LC.F tab (color_clashes_phi nf) (fun _ F => iter nf F) color_clashes_keep 0 (color_clashes_L0 nf )) (color_clashes_m0 n' pairs with' t26) = color_clashes_l0 nf n' pairs  fu with' t26 := by
  intro fu
  induction fu with
  | zero => intros; rfl
  | succ fu ih =>
    intro with' t26
    rw [color_clashes_h0 nf  n' pairs fu with' t26]
    simp only [ih, color_clashes_e2]
    rfl
theorem color_clashes_eq (nf : Nat) (n' : Int) (pairs : List (Int × Int × Unit)) : runF tab (color_clashes_phi nf) color_clashes_keep nf [PT.val (Ty.int IntKind.i64) (Md.bor true false), PT.val ((Ty.int IntKind.i64).pair ((Ty.int IntKind.i64).pair Ty.unit)).sl (Md.bor true false)] [((Ty.int IntKind.u32).sl, Md.own false (Md.bor false false)), (Ty.int IntKind.i64, Md.bor false true)] (resL ([]) Try.f28) (codeOf Try.f28) ⟨n', pairs, ()⟩ = color_clashes_f nf n' pairs := by
  have h : runF tab (color_clashes_phi nf) color_clashes_keep nf [PT.val (Ty.int IntKind.i64) (Md.bor true false), PT.val ((Ty.int IntKind.i64).pair ((Ty.int IntKind.i64).pair Ty.unit)).sl (Md.bor true false)] [((Ty.int IntKind.u32).sl, Md.own false (Md.bor false false)), (Ty.int IntKind.i64, Md.bor false true)] (resL ([]) Try.f28) (codeOf Try.f28) ⟨n', pairs, ()⟩ = color_clashes_p nf (fun p0 p1 v0 v1 => iter nf (LC.F tab (color_clashes_phi nf) (fun _ F => iter nf F) color_clashes_keep 0 (color_clashes_L0 nf)) (color_clashes_m0 p0 p1 v0 v1)) n' pairs := by kernel_rfl
  rw [h]
  simp only [color_clashes_e0]
  rfl
def color_clashes_F (nf : Nat) (x : denPs [.val (.int .i64) (.bor true false), .val (.sl (.pair (.int .i64) (.pair (.int .i64) (.unit)))) (.bor true false)]) : Option (denL [(.sl (.int .u32), .own false (.bor false false)), (.int .i64, .bor false true)]) := color_clashes_f nf x.1 x.2.1
def color_clashes_C (nf : Nat) : Contract := ⟨[.val (.int .i64) (.bor true false), .val (.sl (.pair (.int .i64) (.pair (.int .i64) (.unit)))) (.bor true false)], [(.sl (.int .u32), .own false (.bor false false)), (.int .i64, .bor false true)], color_clashes_F nf, []⟩
theorem color_clashes_ok : FnOK Try.prog 28 := ⟨Try.f28, codeOf Try.f28, Try.func28, by kernel_rfl, by kernel_rfl⟩
theorem color_clashes_holds (nf : Nat) : Contract.Holds Try.prog 28 (color_clashes_C nf) :=
  fn_holds (Φ := color_clashes_phi nf) (keep := color_clashes_keep) (n := nf) ⟨tabs.1, tabs.2, ctx_nil, mixed, bk_ok bkls rfl⟩ (fn := Try.f28) ⟨Try.func28, by kernel_rfl, by kernel_rfl, by kernel_rfl⟩ (fun x => color_clashes_eq nf x.1 x.2.1)

/-! codemason color.fill -/
def color_fill_tab : Tab := ⟨lookT [(2, .int .i64), (3, .int .i64), (4, .bool), (5, .int .u8), (6, .int .u8), (7, .pair (.int .i64) (.pair (.int .i64) (.pair (.bool) (.pair (.int .u8) (.unit))))), (8, .pair (.int .i64) (.pair (.int .i64) (.pair (.bool) (.pair (.int .u8) (.unit))))), (12, .int .u64), (21, .int .i32), (22, .sl (.pair (.int .i64) (.pair (.int .i64) (.unit)))), (23, .sl (.int .i64)), (24, .int .i64), (35, .int .u32), (43, .sl (.pair (.int .i64) (.pair (.int .i64) (.unit)))), (48, .sl (.int .u8)), (49, .sl (.pair (.int .i64) (.pair (.int .i64) (.pair (.int .i64) (.pair (.int .i64) (.pair (.int .i64) (.unit))))))), (53, .pair (.int .i64) (.pair (.int .i64) (.pair (.int .i64) (.pair (.int .i64) (.pair (.int .i64) (.unit)))))), (54, .pair (.int .i64) (.pair (.int .i64) (.pair (.int .i64) (.pair (.int .i64) (.pair (.int .i64) (.unit)))))), (56, .sl (.int .u32)), (61, .pair (.int .i64) (.pair (.int .i64) (.unit))), (64, .mp (.int .u32) (.bool)), (67, .int .u64), (77, .pair (.sl (.int .i64)) (.pair (.sl (.int .i64)) (.unit))), (78, .pair (.sl (.int .i64)) (.pair (.sl (.int .i64)) (.unit))), (79, .pair (.int .i64) (.pair (.int .i64) (.unit))), (80, .pair (.int .i64) (.pair (.int .i64) (.unit))), (84, .sl (.sl (.int .i64))), (88, .sl (.bool)), (96, .int .u8), (97, .int .u8), (100, .int .i32), (101, .int .i32)], lookM [(2, .bor false true), (3, .bor false true), (4, .bor false true), (5, .bor false true), (6, .bor false true), (7, .bor false true), (8, .bor false true), (12, .bor false true), (21, .bor false true), (22, .own false (.bor false false)), (23, .own true (.bor false false)), (24, .bor false true), (35, .bor false true), (43, .own false (.bor false false)), (48, .own false (.bor false false)), (49, .own false (.bor false false)), (53, .bor false true), (54, .bor false true), (56, .own false (.bor false false)), (61, .bor false true), (64, .own false (.bor false false)), (67, .bor false true), (77, .bor true false), (78, .pair (.own false (.bor false false)) (.pair (.own false (.bor false false)) (.bor false false))), (79, .bor false true), (80, .bor false true), (84, .own false (.bor false false)), (88, .own false (.bor false false)), (96, .bor false true), (97, .bor false true), (100, .bor false true), (101, .bor false true)], hasT [61, 92], hasT [9, 10, 11], fun _ => none, lookB bkl⟩
theorem color_fill_tabs : TabOK Try.prog color_fill_tab ∧ EqOK Try.prog color_fill_tab := tab_ok (by kernel_rfl) (by kernel_rfl)
def color_fill_phi (nf : Nat) (self : denPs [.val (.sl (.int .u32)) (.bor true false), .val (.sl (.int .i64)) (.own true (.bor false false)), .val (.int .i64) (.bor true false)] → Option (denL [(.sl (.int .i64), .own true (.bor false false)), (.bool, .bor false true)])) : Nat → Option Contract := lookC [(29, ⟨[.val (.sl (.int .u32)) (.bor true false), .val (.sl (.int .i64)) (.own true (.bor false false)), .val (.int .i64) (.bor true false)], [(.sl (.int .i64), .own true (.bor false false)), (.bool, .bor false true)], self, []⟩)]
def color_fill_keep : Nat → List Nat := lookK [(2, [0, 1, 2, 8, 9, 10, 22, 23, 26, 27, 28]), (0, [0, 1, 2, 8, 22, 23])]
def color_fill_b0 (nf : Nat) (self : denPs [.val (.sl (.int .u32)) (.bor true false), .val (.sl (.int .i64)) (.own true (.bor false false)), .val (.int .i64) (.bor true false)] → Option (denL [(.sl (.int .i64), .own true (.bor false false)), (.bool, .bor false true)])) (l2 : List Int → Int → List Int → Int → List Int → List Int → Bool → Int → Option (List Int × Bool × Unit)) (with' : List Int) (k' : Int) (out : List Int) (g0 : List Int → Int → Option (List Int × Bool × Unit)) (out2 : List Int) (t23 : Int) : Option (List Int × Bool × Unit) :=
  bif decide (t23 < k') then
    l2 with' k' out t23 out2 out2 true 0
  else
    some (([], false, ()))
def color_fill_b2 (nf : Nat) (self : denPs [.val (.sl (.int .u32)) (.bor true false), .val (.sl (.int .i64)) (.own true (.bor false false)), .val (.int .i64) (.bor true false)] → Option (denL [(.sl (.int .i64), .own true (.bor false false)), (.bool, .bor false true)])) (with' : List Int) (k' : Int) (out : List Int) (t23 : Int) (out2 : List Int) (g0 : List Int → Int → Option (List Int × Bool × Unit)) (g2 : List Int → Bool → Int → Option (List Int × Bool × Unit)) (out3 : List Int) (ok : Bool) (t28 : Int) : Option (List Int × Bool × Unit) :=
  bif decide (t28 < (↑out2.length : Int)) then
    bif inb t28 out3.length then
      bif ok then
        bif out3.getD t28.toNat 0 != t23 then
          g2 out3 true (IntKind.i64.wrap (t28 + 1))
        else
          bif inb (↑out.length : Int) with'.length then
            bif decide (0 ≤ t28) then
              g2 out3 (IntKind.u32.wrap (↑(BitVec.ofInt IntKind.u32.bits (shrI IntKind.u32 (with'.getD (↑out.length : Int).toNat 0) t28) &&& BitVec.ofInt IntKind.u32.bits 1).toNat : Int) == 0) (IntKind.i64.wrap (t28 + 1))
            else
              none
          else
            none
      else
        g2 out3 false (IntKind.i64.wrap (t28 + 1))
    else
      none
  else
    bif !ok then
      g0 out3 (IntKind.i64.wrap (t23 + 1))
    else
      bif (some (Operand.tmp 55)).isSome && decide (0 ≤ (↑0 : Int)) && decide ((↑0 : Int) ≤ (↑out.length : Int)) && decide ((↑out.length : Int) = (↑out.length : Int)) && decide ((↑out.length : Int) ≤ (↑out3.length : Int)) then
        bif bimp true ![t23].isEmpty && ((List.take ((↑out.length : Int) - (↑0 : Int)).toNat (List.drop 0 out3)).length + [t23].length).ble lim then
          bif !(List.take ((↑out.length : Int) - (↑0 : Int)).toNat (List.drop 0 out3) ++ [t23]).isEmpty then
            Option.bind (self (with', List.take ((↑out.length : Int) - (↑0 : Int)).toNat (List.drop 0 out3) ++ [t23], k', ())) fun r =>
            bif r.snd.fst then
              some ((r.fst, true, ()))
            else
              g0 out3 (IntKind.i64.wrap (t23 + 1))
          else
            none
        else
          none
      else
        none
def color_fill_p (nf : Nat) (self : denPs [.val (.sl (.int .u32)) (.bor true false), .val (.sl (.int .i64)) (.own true (.bor false false)), .val (.int .i64) (.bor true false)] → Option (denL [(.sl (.int .i64), .own true (.bor false false)), (.bool, .bor false true)])) (l0 : List Int → Int → List Int → List Int → Int → Option (List Int × Bool × Unit)) (with' : List Int) (out : List Int) (k' : Int) : Option (List Int × Bool × Unit) :=
  bif (↑out.length : Int) == (↑with'.length : Int) then
    some ((out, true, ()))
  else
    l0 with' k' out out 0
def color_fill_l2 (nf : Nat) (self : denPs [.val (.sl (.int .u32)) (.bor true false), .val (.sl (.int .i64)) (.own true (.bor false false)), .val (.int .i64) (.bor true false)] → Option (denL [(.sl (.int .i64), .own true (.bor false false)), (.bool, .bor false true)])) (with' : List Int) (k' : Int) (out : List Int) (t23 : Int) (out2 : List Int) (g0 : List Int → Int → Option (List Int × Bool × Unit)) : Nat → List Int → Bool → Int → Option (List Int × Bool × Unit)
  | 0, _, _, _ => none
  | fu + 1, out3, ok, t28 => color_fill_b2 nf self  with' k' out t23 out2 g0 (color_fill_l2 nf self with' k' out t23 out2 g0 fu) out3 ok t28
def color_fill_l0 (nf : Nat) (self : denPs [.val (.sl (.int .u32)) (.bor true false), .val (.sl (.int .i64)) (.own true (.bor false false)), .val (.int .i64) (.bor true false)] → Option (denL [(.sl (.int .i64), .own true (.bor false false)), (.bool, .bor false true)])) (with' : List Int) (k' : Int) (out : List Int) : Nat → List Int → Int → Option (List Int × Bool × Unit)
  | 0, _, _ => none
  | fu + 1, out2, t23 => color_fill_b0 nf self (fun _ _ _ p3 p4 v0 v1 v2 => color_fill_l2 nf self with' k' out p3 p4 (fun out2 t23 => color_fill_l0 nf self with' k' out  fu out2 t23) nf v0 v1 v2) with' k' out  (color_fill_l0 nf self with' k' out  fu) out2 t23
def color_fill_f (nf : Nat) (self : denPs [.val (.sl (.int .u32)) (.bor true false), .val (.sl (.int .i64)) (.own true (.bor false false)), .val (.int .i64) (.bor true false)] → Option (denL [(.sl (.int .i64), .own true (.bor false false)), (.bool, .bor false true)])) (with' : List Int) (out : List Int) (k' : Int) : Option (List Int × Bool × Unit) := color_fill_p nf self (fun p0 p1 p2 v0 v1 => color_fill_l0 nf self p0 p1 p2 nf v0 v1) with' out k'
noncomputable def color_fill_L0 (nf : Nat) (self : denPs [.val (.sl (.int .u32)) (.bor true false), .val (.sl (.int .i64)) (.own true (.bor false false)), .val (.int .i64) (.bor true false)] → Option (denL [(.sl (.int .i64), .own true (.bor false false)), (.bool, .bor false true)])) : LC (List Int × Bool × Unit) := theL (findL color_fill_tab (color_fill_phi nf self) (fun _ F => iter nf F) color_fill_keep 0 0 (codeOf Try.f29) (fin color_fill_tab [((Ty.int IntKind.i64).sl, Md.own true (Md.bor false false)), (Ty.bool, Md.bor false true)] (resL ([]) Try.f29)) (fun _ _ => none) (fin color_fill_tab [((Ty.int IntKind.i64).sl, Md.own true (Md.bor false false)), (Ty.bool, Md.bor false true)] (resL ([]) Try.f29)))
def color_fill_m0 (with' : List Int) (k' : Int) (out : List Int) (out2 : List Int) (t23 : Int) : St := ⟨fresh, [(0, AV.v (Ty.int IntKind.u32).sl (Md.bor true false) with'), (1, AV.ow 500001 (Ty.int IntKind.i64).sl (Md.own true (Md.bor false false)) out2), (2, AV.v (Ty.int IntKind.i64) (Md.bor false true) k'), (8, AV.v (Ty.int IntKind.i64) (Md.bor false true) (↑out.length : Int)), (22, AV.v (Ty.int IntKind.i64) (Md.bor false true) k'), (23, AV.v (Ty.int IntKind.i64) (Md.bor false true) t23)]⟩
noncomputable def color_fill_L2 (nf : Nat) (self : denPs [.val (.sl (.int .u32)) (.bor true false), .val (.sl (.int .i64)) (.own true (.bor false false)), .val (.int .i64) (.bor true false)] → Option (denL [(.sl (.int .i64), .own true (.bor false false)), (.bool, .bor false true)])) (G0 : St → Option (List Int × Bool × Unit)) : LC (List Int × Bool × Unit) := theL (findL color_fill_tab (color_fill_phi nf self) (fun _ F => iter nf F) color_fill_keep 2 0 (color_fill_L0 nf self ).c (fun st => norm (color_fill_keep 0) st G0) (color_fill_L0 nf self ).Kx (color_fill_L0 nf self ).Kr)
def color_fill_m2 (with' : List Int) (k' : Int) (out : List Int) (t23 : Int) (out2 : List Int) (out3 : List Int) (ok : Bool) (t28 : Int) : St := ⟨fresh, [(0, AV.v (Ty.int IntKind.u32).sl (Md.bor true false) with'), (1, AV.ow 500001 (Ty.int IntKind.i64).sl (Md.own true (Md.bor false false)) out3), (2, AV.v (Ty.int IntKind.i64) (Md.bor false true) k'), (8, AV.v (Ty.int IntKind.i64) (Md.bor false true) (↑out.length : Int)), (9, AV.v (Ty.int IntKind.i64) (Md.bor false true) t23), (10, AV.v Ty.bool (Md.bor false true) ok), (22, AV.v (Ty.int IntKind.i64) (Md.bor false true) k'), (23, AV.v (Ty.int IntKind.i64) (Md.bor false true) t23), (26, AV.al 1 500001 []), (27, AV.v (Ty.int IntKind.i64) (Md.bor false true) (↑out2.length : Int)), (28, AV.v (Ty.int IntKind.i64) (Md.bor false true) t28)]⟩
theorem color_fill_h2 (nf : Nat) (self : denPs [.val (.sl (.int .u32)) (.bor true false), .val (.sl (.int .i64)) (.own true (.bor false false)), .val (.int .i64) (.bor true false)] → Option (denL [(.sl (.int .i64), .own true (.bor false false)), (.bool, .bor false true)])) (G0 : St → Option (List Int × Bool × Unit)) (with' : List Int) (k' : Int) (out : List Int) (t23 : Int) (out2 : List Int) (fu : Nat) (out3 : List Int) (ok : Bool) (t28 : Int) : iter (fu + 1) (LC.F color_fill_tab (color_fill_phi nf self) (fun _ F => iter nf F) color_fill_keep 2 (color_fill_L2 nf self G0)) (color_fill_m2 with' k' out t23 out2 out3 ok t28) = color_fill_b2 nf self  with' k' out t23 out2 (fun out2 t23 => G0 (color_fill_m0 with' k' out out2 t23)) (fun out3 ok t28 => iter fu (LC.F color_fill_tab (color_fill_phi nf self) (fun _ F => iter nf F) color_fill_keep 2 (color_fill_L2 nf self G0)) (color_fill_m2 with' k' out t23 out2 out3 ok t28)) out3 ok t28 := by kernel_rfl
theorem color_fill_e2 (nf : Nat) (self : denPs [.val (.sl (.int .u32)) (.bor true false), .val (.sl (.int .i64)) (.own true (.bor false false)), .val (.int .i64) (.bor true false)] → Option (denL [(.sl (.int .i64), .own true (.bor false false)), (.bool, .bor false true)])) (G0 : St → Option (List Int × Bool × Unit)) (with' : List Int) (k' : Int) (out : List Int) (t23 : Int) (out2 : List Int) : ∀ (fu : Nat) (out3 : List Int) (ok : Bool) (t28 : Int), iter fu (LC.F color_fill_tab (color_fill_phi nf self) (fun _ F => iter nf F) color_fill_keep 2 (color_fill_L2 nf self G0)) (color_fill_m2 with' k' out t23 out2 out3 ok t28) = color_fill_l2 nf self with' k' out t23 out2 (fun out2 t23 => G0 (color_fill_m0 with' k' out out2 t23)) fu out3 ok t28 := by
  intro fu
  induction fu with
  | zero => intros; rfl
  | succ fu ih =>
    intro out3 ok t28
    rw [color_fill_h2 nf self G0 with' k' out t23 out2 fu out3 ok t28]
    simp only [ih]
    rfl
theorem color_fill_h0 (nf : Nat) (self : denPs [.val (.sl (.int .u32)) (.bor true false), .val (.sl (.int .i64)) (.own true (.bor false false)), .val (.int .i64) (.bor true false)] → Option (denL [(.sl (.int .i64), .own true (.bor false false)), (.bool, .bor false true)]))  (with' : List Int) (k' : Int) (out : List Int) (fu : Nat) (out2 : List Int) (t23 : Int) : iter (fu + 1) (LC.F color_fill_tab (color_fill_phi nf self) (fun _ F => iter nf F) color_fill_keep 0 (color_fill_L0 nf self )) (color_fill_m0 with' k' out out2 t23) = color_fill_b0 nf self (fun _ _ _ p3 p4 v0 v1 v2 => iter nf (LC.F color_fill_tab (color_fill_phi nf self) (fun _ F => iter nf F) color_fill_keep 2 (color_fill_L2 nf self (iter fu (LC.F color_fill_tab (color_fill_phi nf self) (fun _ F => iter nf F) color_fill_keep 0 (color_fill_L0 nf self ))))) (color_fill_m2 with' k' out p3 p4 v0 v1 v2)) with' k' out  (fun out2 t23 => iter fu (LC.F color_fill_tab (color_fill_phi nf self) (fun _ F => iter nf F) color_fill_keep 0 (color_fill_L0 nf self )) (color_fill_m0 with' k' out out2 t23)) out2 t23 := by kernel_rfl
theorem color_fill_e0 (nf : Nat) (self : denPs [.val (.sl (.int .u32)) (.bor true false), .val (.sl (.int .i64)) (.own true (.bor false false)), .val (.int .i64) (.bor true false)] → Option (denL [(.sl (.int .i64), .own true (.bor false false)), (.bool, .bor false true)]))  (with' : List Int) (k' : Int) (out : List Int) : ∀ (fu : Nat) (out2 : List Int) (t23 : Int), iter fu (LC.F color_fill_tab (color_fill_phi nf self) (fun _ F => iter nf F) color_fill_keep 0 (color_fill_L0 nf self )) (color_fill_m0 with' k' out out2 t23) = color_fill_l0 nf self with' k' out  fu out2 t23 := by
  intro fu
  induction fu with
  | zero => intros; rfl
  | succ fu ih =>
    intro out2 t23
    rw [color_fill_h0 nf self  with' k' out fu out2 t23]
    simp only [ih, color_fill_e2]
    rfl
theorem color_fill_eq (nf : Nat) (self : denPs [.val (.sl (.int .u32)) (.bor true false), .val (.sl (.int .i64)) (.own true (.bor false false)), .val (.int .i64) (.bor true false)] → Option (denL [(.sl (.int .i64), .own true (.bor false false)), (.bool, .bor false true)])) (with' : List Int) (out : List Int) (k' : Int) : runF color_fill_tab (color_fill_phi nf self) color_fill_keep nf [PT.val (Ty.int IntKind.u32).sl (Md.bor true false), PT.val (Ty.int IntKind.i64).sl (Md.own true (Md.bor false false)), PT.val (Ty.int IntKind.i64) (Md.bor true false)] [((Ty.int IntKind.i64).sl, Md.own true (Md.bor false false)), (Ty.bool, Md.bor false true)] (resL ([]) Try.f29) (codeOf Try.f29) ⟨with', out, k', ()⟩ = color_fill_f nf self with' out k' := by
  have h : runF color_fill_tab (color_fill_phi nf self) color_fill_keep nf [PT.val (Ty.int IntKind.u32).sl (Md.bor true false), PT.val (Ty.int IntKind.i64).sl (Md.own true (Md.bor false false)), PT.val (Ty.int IntKind.i64) (Md.bor true false)] [((Ty.int IntKind.i64).sl, Md.own true (Md.bor false false)), (Ty.bool, Md.bor false true)] (resL ([]) Try.f29) (codeOf Try.f29) ⟨with', out, k', ()⟩ = color_fill_p nf self (fun p0 p1 p2 v0 v1 => iter nf (LC.F color_fill_tab (color_fill_phi nf self) (fun _ F => iter nf F) color_fill_keep 0 (color_fill_L0 nf self)) (color_fill_m0 p0 p1 p2 v0 v1)) with' out k' := by kernel_rfl
  rw [h]
  simp only [color_fill_e0]
  rfl
def color_fill_F : Nat → denPs [.val (.sl (.int .u32)) (.bor true false), .val (.sl (.int .i64)) (.own true (.bor false false)), .val (.int .i64) (.bor true false)] → Option (denL [(.sl (.int .i64), .own true (.bor false false)), (.bool, .bor false true)])
  | 0, _ => none
  | nf + 1, x => color_fill_f nf (color_fill_F nf) x.1 x.2.1 x.2.2.1
def color_fill_C (nf : Nat) : Contract := ⟨[.val (.sl (.int .u32)) (.bor true false), .val (.sl (.int .i64)) (.own true (.bor false false)), .val (.int .i64) (.bor true false)], [(.sl (.int .i64), .own true (.bor false false)), (.bool, .bor false true)], color_fill_F nf, []⟩
theorem color_fill_ok : FnOK Try.prog 29 := ⟨Try.f29, codeOf Try.f29, Try.func29, by kernel_rfl, by kernel_rfl⟩
theorem color_fill_holds : ∀ (nf : Nat), Contract.Holds Try.prog 29 (color_fill_C nf)
  | 0 => fun _ _ h => by cases h
  | nf + 1 => by
    have ih := color_fill_holds nf
    exact fn_holds (Φ := color_fill_phi nf (color_fill_F nf)) (keep := color_fill_keep) (n := nf) ⟨color_fill_tabs.1, color_fill_tabs.2, (ctx_cons color_fill_ok (ih) ctx_nil), mixed, bk_ok bkls rfl⟩ (fn := Try.f29) ⟨Try.func29, by kernel_rfl, by kernel_rfl, by kernel_rfl⟩ (fun x => color_fill_eq nf (color_fill_F nf) x.1 x.2.1 x.2.2.1)

/-! codemason color.Least -/
def color_Least_tab : Tab := ⟨lookT [(2, .int .i64), (3, .int .i64), (4, .bool), (5, .int .u8), (6, .int .u8), (7, .pair (.int .i64) (.pair (.int .i64) (.pair (.bool) (.pair (.int .u8) (.unit))))), (8, .pair (.int .i64) (.pair (.int .i64) (.pair (.bool) (.pair (.int .u8) (.unit))))), (12, .int .u64), (21, .int .i32), (22, .sl (.pair (.int .i64) (.pair (.int .i64) (.unit)))), (23, .sl (.int .i64)), (24, .int .i64), (35, .int .u32), (43, .sl (.pair (.int .i64) (.pair (.int .i64) (.unit)))), (48, .sl (.int .u8)), (49, .sl (.pair (.int .i64) (.pair (.int .i64) (.pair (.int .i64) (.pair (.int .i64) (.pair (.int .i64) (.unit))))))), (53, .pair (.int .i64) (.pair (.int .i64) (.pair (.int .i64) (.pair (.int .i64) (.pair (.int .i64) (.unit)))))), (54, .pair (.int .i64) (.pair (.int .i64) (.pair (.int .i64) (.pair (.int .i64) (.pair (.int .i64) (.unit)))))), (56, .sl (.int .u32)), (61, .pair (.int .i64) (.pair (.int .i64) (.unit))), (64, .mp (.int .u32) (.bool)), (67, .int .u64), (77, .pair (.sl (.int .i64)) (.pair (.sl (.int .i64)) (.unit))), (78, .pair (.sl (.int .i64)) (.pair (.sl (.int .i64)) (.unit))), (79, .pair (.int .i64) (.pair (.int .i64) (.unit))), (80, .pair (.int .i64) (.pair (.int .i64) (.unit))), (84, .sl (.sl (.int .i64))), (88, .sl (.bool)), (96, .int .u8), (97, .int .u8), (100, .int .i32), (101, .int .i32)], lookM [(2, .bor false true), (3, .bor false true), (4, .bor false true), (5, .bor false true), (6, .bor false true), (7, .bor false true), (8, .bor false true), (12, .bor false true), (21, .bor false true), (22, .own false (.bor false false)), (23, .own true (.bor false false)), (24, .bor false true), (35, .bor false true), (43, .own false (.bor false false)), (48, .own false (.bor false false)), (49, .own false (.bor false false)), (53, .bor false true), (54, .bor false true), (56, .own false (.bor false false)), (61, .bor false true), (64, .own false (.bor false false)), (67, .bor false true), (77, .bor true false), (78, .pair (.own false (.bor false false)) (.pair (.own false (.bor false false)) (.bor false false))), (79, .bor false true), (80, .bor false true), (84, .own false (.bor false false)), (88, .own false (.bor false false)), (96, .bor false true), (97, .bor false true), (100, .bor false true), (101, .bor false true)], hasT [61, 92], hasT [9, 10, 11], fun _ => none, lookB bkl⟩
theorem color_Least_tabs : TabOK Try.prog color_Least_tab ∧ EqOK Try.prog color_Least_tab := tab_ok (by kernel_rfl) (by kernel_rfl)
def color_Least_phi (nf : Nat) : Nat → Option Contract := lookC [(28, color_clashes_C nf), (29, color_fill_C nf)]
def color_Least_keep : Nat → List Nat := lookK [(0, [6, 8, 11, 14, 15])]
def color_Least_b0 (nf : Nat)  (g0 : List Int → Int → Option (List Int × Int × Unit)) (with' : List Int) (k' : Int) : Option (List Int × Int × Unit) :=
  Option.bind (color_fill_F nf (with', [], k', ())) fun r2 =>
  bif r2.snd.fst then
    some ((r2.fst, 0, ()))
  else
    g0 with' (IntKind.i64.wrap (k' + 1))
def color_Least_p (nf : Nat) (l0 : List Int → Int → Option (List Int × Int × Unit)) (n' : Int) (pairs : List (Int × Int × Unit)) : Option (List Int × Int × Unit) :=
  Option.bind (color_clashes_f nf n' pairs) fun r =>
  bif r.snd.fst != 0 then
    some (([], r.snd.fst, ()))
  else
    l0 r.fst 1
def color_Least_l0 (nf : Nat)  : Nat → List Int → Int → Option (List Int × Int × Unit)
  | 0, _, _ => none
  | fu + 1, with', k' => color_Least_b0 nf    (color_Least_l0 nf   fu) with' k'
def color_Least_f (nf : Nat) (n' : Int) (pairs : List (Int × Int × Unit)) : Option (List Int × Int × Unit) := color_Least_p nf (fun  v0 v1 => color_Least_l0 nf  nf v0 v1) n' pairs
noncomputable def color_Least_L0 (nf : Nat) : LC (List Int × Int × Unit) := theL (findL color_Least_tab (color_Least_phi nf) (fun _ F => iter nf F) color_Least_keep 0 0 (codeOf Try.f10) (fin color_Least_tab [((Ty.int IntKind.i64).sl, Md.own true (Md.bor false false)), (Ty.int IntKind.i64, Md.bor false true)] (resL ([]) Try.f10)) (fun _ _ => none) (fin color_Least_tab [((Ty.int IntKind.i64).sl, Md.own true (Md.bor false false)), (Ty.int IntKind.i64, Md.bor false true)] (resL ([]) Try.f10)))
def color_Least_m0 (with' : List Int) (k' : Int) : St := ⟨fresh, [(6, AV.ow 500006 (Ty.int IntKind.u32).sl (Md.own false (Md.bor false false)) with'), (8, AV.v (Ty.int IntKind.i64) (Md.bor false true) k'), (11, AV.dead), (14, AV.dead), (15, AV.dead)]⟩
theorem color_Least_h0 (nf : Nat)   (fu : Nat) (with' : List Int) (k' : Int) : iter (fu + 1) (LC.F color_Least_tab (color_Least_phi nf) (fun _ F => iter nf F) color_Least_keep 0 (color_Least_L0 nf )) (color_Least_m0  with' k') = color_Least_b0 nf    (fun with' k' => iter fu (LC.F color_Least_tab (color_Least_phi nf) (fun _ F => iter nf F) color_Least_keep 0 (color_Least_L0 nf )) (color_Least_m0  with' k')) with' k' := by kernel_rfl
theorem color_Least_e0 (nf : Nat)   : ∀ (fu : Nat) (with' : List Int) (k' : Int), iter fu (LC.F color_Least_tab (color_Least_phi nf) (fun _ F => iter nf F) color_Least_keep 0 (color_Least_L0 nf )) (color_Least_m0  with' k') = color_Least_l0 nf   fu with' k' := by
  intro fu
  induction fu with
  | zero => intros; rfl
  | succ fu ih =>
    intro with' k'
    rw [color_Least_h0 nf   fu with' k']
    simp only [ih]
    rfl
theorem color_Least_eq (nf : Nat) (n' : Int) (pairs : List (Int × Int × Unit)) : runF color_Least_tab (color_Least_phi nf) color_Least_keep nf [PT.val (Ty.int IntKind.i64) (Md.bor true false), PT.val ((Ty.int IntKind.i64).pair ((Ty.int IntKind.i64).pair Ty.unit)).sl (Md.bor true false)] [((Ty.int IntKind.i64).sl, Md.own true (Md.bor false false)), (Ty.int IntKind.i64, Md.bor false true)] (resL ([]) Try.f10) (codeOf Try.f10) ⟨n', pairs, ()⟩ = color_Least_f nf n' pairs := by
  have h : runF color_Least_tab (color_Least_phi nf) color_Least_keep nf [PT.val (Ty.int IntKind.i64) (Md.bor true false), PT.val ((Ty.int IntKind.i64).pair ((Ty.int IntKind.i64).pair Ty.unit)).sl (Md.bor true false)] [((Ty.int IntKind.i64).sl, Md.own true (Md.bor false false)), (Ty.int IntKind.i64, Md.bor false true)] (resL ([]) Try.f10) (codeOf Try.f10) ⟨n', pairs, ()⟩ = color_Least_p nf (fun  v0 v1 => iter nf (LC.F color_Least_tab (color_Least_phi nf) (fun _ F => iter nf F) color_Least_keep 0 (color_Least_L0 nf)) (color_Least_m0  v0 v1)) n' pairs := by kernel_rfl
  rw [h]
  simp only [color_Least_e0]
  rfl
def color_Least_F (nf : Nat) (x : denPs [.val (.int .i64) (.bor true false), .val (.sl (.pair (.int .i64) (.pair (.int .i64) (.unit)))) (.bor true false)]) : Option (denL [(.sl (.int .i64), .own true (.bor false false)), (.int .i64, .bor false true)]) := color_Least_f nf x.1 x.2.1
def color_Least_C (nf : Nat) : Contract := ⟨[.val (.int .i64) (.bor true false), .val (.sl (.pair (.int .i64) (.pair (.int .i64) (.unit)))) (.bor true false)], [(.sl (.int .i64), .own true (.bor false false)), (.int .i64, .bor false true)], color_Least_F nf, []⟩
theorem color_Least_ok : FnOK Try.prog 10 := ⟨Try.f10, codeOf Try.f10, Try.func10, by kernel_rfl, by kernel_rfl⟩
theorem color_Least_holds (nf : Nat) : Contract.Holds Try.prog 10 (color_Least_C nf) :=
  fn_holds (Φ := color_Least_phi nf) (keep := color_Least_keep) (n := nf) ⟨color_Least_tabs.1, color_Least_tabs.2, (ctx_cons color_clashes_ok (color_clashes_holds nf) (ctx_cons color_fill_ok (color_fill_holds nf) ctx_nil)), mixed, bk_ok bkls rfl⟩ (fn := Try.f10) ⟨Try.func10, by kernel_rfl, by kernel_rfl, by kernel_rfl⟩ (fun x => color_Least_eq nf x.1 x.2.1)

/-! codemason codemasonref.Inside -/
def ref_Inside_phi (nf : Nat) : Nat → Option Contract := lookC []
def ref_Inside_keep : Nat → List Nat := lookK [(0, [0, 1, 7, 8, 9])]
def ref_Inside_b0 (nf : Nat) (n' : Int) (l' : List Int) (g0 : Int → Option (Bool × Unit)) (t9 : Int) : Option (Bool × Unit) :=
  bif decide (t9 < (↑l'.length : Int)) then
    bif inb t9 l'.length then
      bif decide (l'.getD t9.toNat 0 < 0) then
        some ((false, ()))
      else
        bif decide (l'.getD t9.toNat 0 ≥ n') then
          some ((false, ()))
        else
          g0 (IntKind.i64.wrap (t9 + 1))
    else
      none
  else
    some ((true, ()))
def ref_Inside_p (nf : Nat) (l0 : Int → List Int → Int → Option (Bool × Unit)) (n' : Int) (l' : List Int) : Option (Bool × Unit) :=
  l0 n' l' 0
def ref_Inside_l0 (nf : Nat) (n' : Int) (l' : List Int) : Nat → Int → Option (Bool × Unit)
  | 0, _ => none
  | fu + 1, t9 => ref_Inside_b0 nf  n' l'  (ref_Inside_l0 nf n' l'  fu) t9
def ref_Inside_f (nf : Nat) (n' : Int) (l' : List Int) : Option (Bool × Unit) := ref_Inside_p nf (fun p0 p1 v0 => ref_Inside_l0 nf p0 p1 nf v0) n' l'
noncomputable def ref_Inside_L0 (nf : Nat) : LC (Bool × Unit) := theL (findL tab (ref_Inside_phi nf) (fun _ F => iter nf F) ref_Inside_keep 0 0 (codeOf Try.f30) (fin tab [(Ty.bool, Md.bor false true)] (resL ([]) Try.f30)) (fun _ _ => none) (fin tab [(Ty.bool, Md.bor false true)] (resL ([]) Try.f30)))
def ref_Inside_m0 (n' : Int) (l' : List Int) (t9 : Int) : St := ⟨fresh, [(0, AV.v (Ty.int IntKind.i64) (Md.bor false true) n'), (1, AV.v (Ty.int IntKind.i64).sl (Md.bor true false) l'), (7, AV.v (Ty.int IntKind.i64).sl (Md.bor true false) l'), (8, AV.v (Ty.int IntKind.i64) (Md.bor false true) (↑l'.length : Int)), (9, AV.v (Ty.int IntKind.i64) (Md.bor false true) t9)]⟩
theorem ref_Inside_h0 (nf : Nat)  (n' : Int) (l' : List Int) (fu : Nat) (t9 : Int) : iter (fu + 1) (LC.F tab (ref_Inside_phi nf) (fun _ F => iter nf F) ref_Inside_keep 0 (ref_Inside_L0 nf )) (ref_Inside_m0 n' l' t9) = ref_Inside_b0 nf  n' l'  (fun t9 => iter fu (LC.F tab (ref_Inside_phi nf) (fun _ F => iter nf F) ref_Inside_keep 0 (ref_Inside_L0 nf )) (ref_Inside_m0 n' l' t9)) t9 := by kernel_rfl
theorem ref_Inside_e0 (nf : Nat)  (n' : Int) (l' : List Int) : ∀ (fu : Nat) (t9 : Int), iter fu (LC.F tab (ref_Inside_phi nf) (fun _ F => iter nf F) ref_Inside_keep 0 (ref_Inside_L0 nf )) (ref_Inside_m0 n' l' t9) = ref_Inside_l0 nf n' l'  fu t9 := by
  intro fu
  induction fu with
  | zero => intros; rfl
  | succ fu ih =>
    intro t9
    rw [ref_Inside_h0 nf  n' l' fu t9]
    simp only [ih]
    rfl
theorem ref_Inside_eq (nf : Nat) (n' : Int) (l' : List Int) : runF tab (ref_Inside_phi nf) ref_Inside_keep nf [PT.val (Ty.int IntKind.i64) (Md.bor true false), PT.val (Ty.int IntKind.i64).sl (Md.bor true false)] [(Ty.bool, Md.bor false true)] (resL ([]) Try.f30) (codeOf Try.f30) ⟨n', l', ()⟩ = ref_Inside_f nf n' l' := by
  have h : runF tab (ref_Inside_phi nf) ref_Inside_keep nf [PT.val (Ty.int IntKind.i64) (Md.bor true false), PT.val (Ty.int IntKind.i64).sl (Md.bor true false)] [(Ty.bool, Md.bor false true)] (resL ([]) Try.f30) (codeOf Try.f30) ⟨n', l', ()⟩ = ref_Inside_p nf (fun p0 p1 v0 => iter nf (LC.F tab (ref_Inside_phi nf) (fun _ F => iter nf F) ref_Inside_keep 0 (ref_Inside_L0 nf)) (ref_Inside_m0 p0 p1 v0)) n' l' := by kernel_rfl
  rw [h]
  simp only [ref_Inside_e0]
  rfl
def ref_Inside_F (nf : Nat) (x : denPs [.val (.int .i64) (.bor true false), .val (.sl (.int .i64)) (.bor true false)]) : Option (denL [(.bool, .bor false true)]) := ref_Inside_f nf x.1 x.2.1
def ref_Inside_C (nf : Nat) : Contract := ⟨[.val (.int .i64) (.bor true false), .val (.sl (.int .i64)) (.bor true false)], [(.bool, .bor false true)], ref_Inside_F nf, []⟩
theorem ref_Inside_ok : FnOK Try.prog 30 := ⟨Try.f30, codeOf Try.f30, Try.func30, by kernel_rfl, by kernel_rfl⟩
theorem ref_Inside_holds (nf : Nat) : Contract.Holds Try.prog 30 (ref_Inside_C nf) :=
  fn_holds (Φ := ref_Inside_phi nf) (keep := ref_Inside_keep) (n := nf) ⟨tabs.1, tabs.2, ctx_nil, mixed, bk_ok bkls rfl⟩ (fn := Try.f30) ⟨Try.func30, by kernel_rfl, by kernel_rfl, by kernel_rfl⟩ (fun x => ref_Inside_eq nf x.1 x.2.1)

/-! codemason codemasonref.ClashCheck -/
def ref_ClashCheck_phi (nf : Nat) : Nat → Option Contract := lookC [(30, ref_Inside_C nf)]
def ref_ClashCheck_keep : Nat → List Nat := lookK [(2, [1, 35, 36, 37]), (0, [0, 1, 20, 21, 22])]
def ref_ClashCheck_b0 (nf : Nat) (l2 : List (Int × Int × Unit) → Int → Option (Int × Unit)) (n' : Int) (pairs : List (Int × Int × Unit)) (g0 : Int → Option (Int × Unit)) (t22 : Int) : Option (Int × Unit) :=
  bif decide (t22 < (↑pairs.length : Int)) then
    bif inb t22 pairs.length then
      Option.bind (ref_Inside_f nf n' ([(pairs.getD t22.toNat (0, 0, ())).fst, (pairs.getD t22.toNat (0, 0, ())).snd.fst])) fun r =>
      bif !r.fst then
        some ((2, ()))
      else
        g0 (IntKind.i64.wrap (t22 + 1))
    else
      none
  else
    l2 pairs 0
def ref_ClashCheck_b2 (nf : Nat) (pairs : List (Int × Int × Unit)) (g2 : Int → Option (Int × Unit)) (t37 : Int) : Option (Int × Unit) :=
  bif decide (t37 < (↑pairs.length : Int)) then
    bif inb t37 pairs.length then
      bif (pairs.getD t37.toNat (0, 0, ())).fst == (pairs.getD t37.toNat (0, 0, ())).snd.fst then
        some ((3, ()))
      else
        g2 (IntKind.i64.wrap (t37 + 1))
    else
      none
  else
    some ((0, ()))
def ref_ClashCheck_p (nf : Nat) (l0 : Int → List (Int × Int × Unit) → Int → Option (Int × Unit)) (n' : Int) (pairs : List (Int × Int × Unit)) : Option (Int × Unit) :=
  bif decide (n' < 1) then
    some ((1, ()))
  else
    bif decide (n' > 8) then
      some ((1, ()))
    else
      bif decide ((↑pairs.length : Int) > 28) then
        some ((1, ()))
      else
        l0 n' pairs 0
def ref_ClashCheck_l2 (nf : Nat) (pairs : List (Int × Int × Unit)) : Nat → Int → Option (Int × Unit)
  | 0, _ => none
  | fu + 1, t37 => ref_ClashCheck_b2 nf  pairs  (ref_ClashCheck_l2 nf pairs  fu) t37
def ref_ClashCheck_l0 (nf : Nat) (n' : Int) (pairs : List (Int × Int × Unit)) : Nat → Int → Option (Int × Unit)
  | 0, _ => none
  | fu + 1, t22 => ref_ClashCheck_b0 nf (fun _ v0 => ref_ClashCheck_l2 nf pairs  nf v0) n' pairs  (ref_ClashCheck_l0 nf n' pairs  fu) t22
def ref_ClashCheck_f (nf : Nat) (n' : Int) (pairs : List (Int × Int × Unit)) : Option (Int × Unit) := ref_ClashCheck_p nf (fun p0 p1 v0 => ref_ClashCheck_l0 nf p0 p1 nf v0) n' pairs
noncomputable def ref_ClashCheck_L0 (nf : Nat) : LC (Int × Unit) := theL (findL tab (ref_ClashCheck_phi nf) (fun _ F => iter nf F) ref_ClashCheck_keep 0 0 (codeOf Try.f11) (fin tab [(Ty.int IntKind.i64, Md.bor false true)] (resL ([]) Try.f11)) (fun _ _ => none) (fin tab [(Ty.int IntKind.i64, Md.bor false true)] (resL ([]) Try.f11)))
def ref_ClashCheck_m0 (n' : Int) (pairs : List (Int × Int × Unit)) (t22 : Int) : St := ⟨fresh, [(0, AV.v (Ty.int IntKind.i64) (Md.bor false true) n'), (1, AV.v ((Ty.int IntKind.i64).pair ((Ty.int IntKind.i64).pair Ty.unit)).sl (Md.bor true false) pairs), (20, AV.v ((Ty.int IntKind.i64).pair ((Ty.int IntKind.i64).pair Ty.unit)).sl (Md.bor true false) pairs), (21, AV.v (Ty.int IntKind.i64) (Md.bor false true) (↑pairs.length : Int)), (22, AV.v (Ty.int IntKind.i64) (Md.bor false true) t22)]⟩
noncomputable def ref_ClashCheck_L2 (nf : Nat) : LC (Int × Unit) := theL (findL tab (ref_ClashCheck_phi nf) (fun _ F => iter nf F) ref_ClashCheck_keep 2 0 (codeOf Try.f11) (fin tab [(Ty.int IntKind.i64, Md.bor false true)] (resL ([]) Try.f11)) (fun _ _ => none) (fin tab [(Ty.int IntKind.i64, Md.bor false true)] (resL ([]) Try.f11)))
def ref_ClashCheck_m2 (pairs : List (Int × Int × Unit)) (t37 : Int) : St := ⟨fresh, [(1, AV.v ((Ty.int IntKind.i64).pair ((Ty.int IntKind.i64).pair Ty.unit)).sl (Md.bor true false) pairs), (35, AV.v ((Ty.int IntKind.i64).pair ((Ty.int IntKind.i64).pair Ty.unit)).sl (Md.bor true false) pairs), (36, AV.v (Ty.int IntKind.i64) (Md.bor false true) (↑pairs.length : Int)), (37, AV.v (Ty.int IntKind.i64) (Md.bor false true) t37)]⟩
theorem ref_ClashCheck_h2 (nf : Nat)  (pairs : List (Int × Int × Unit)) (fu : Nat) (t37 : Int) : iter (fu + 1) (LC.F tab (ref_ClashCheck_phi nf) (fun _ F => iter nf F) ref_ClashCheck_keep 2 (ref_ClashCheck_L2 nf )) (ref_ClashCheck_m2 pairs t37) = ref_ClashCheck_b2 nf  pairs  (fun t37 => iter fu (LC.F tab (ref_ClashCheck_phi nf) (fun _ F => iter nf F) ref_ClashCheck_keep 2 (ref_ClashCheck_L2 nf )) (ref_ClashCheck_m2 pairs t37)) t37 := by kernel_rfl
theorem ref_ClashCheck_e2 (nf : Nat)  (pairs : List (Int × Int × Unit)) : ∀ (fu : Nat) (t37 : Int), iter fu (LC.F tab (ref_ClashCheck_phi nf) (fun _ F => iter nf F) ref_ClashCheck_keep 2 (ref_ClashCheck_L2 nf )) (ref_ClashCheck_m2 pairs t37) = ref_ClashCheck_l2 nf pairs  fu t37 := by
  intro fu
  induction fu with
  | zero => intros; rfl
  | succ fu ih =>
    intro t37
    rw [ref_ClashCheck_h2 nf  pairs fu t37]
    simp only [ih]
    rfl
theorem ref_ClashCheck_h0 (nf : Nat)  (n' : Int) (pairs : List (Int × Int × Unit)) (fu : Nat) (t22 : Int) : iter (fu + 1) (LC.F tab (ref_ClashCheck_phi nf) (fun _ F => iter nf F) ref_ClashCheck_keep 0 (ref_ClashCheck_L0 nf )) (ref_ClashCheck_m0 n' pairs t22) = ref_ClashCheck_b0 nf (fun _ v0 => iter nf (LC.F tab (ref_ClashCheck_phi nf) (fun _ F => iter nf F) ref_ClashCheck_keep 2 (ref_ClashCheck_L2 nf )) (ref_ClashCheck_m2 pairs v0)) n' pairs  (fun t22 => iter fu (LC.F tab (ref_ClashCheck_phi nf) (fun _ F => iter nf F) ref_ClashCheck_keep 0 (ref_ClashCheck_L0 nf )) (ref_ClashCheck_m0 n' pairs t22)) t22 := by kernel_rfl
theorem ref_ClashCheck_e0 (nf : Nat)  (n' : Int) (pairs : List (Int × Int × Unit)) : ∀ (fu : Nat) (t22 : Int), iter fu (LC.F tab (ref_ClashCheck_phi nf) (fun _ F => iter nf F) ref_ClashCheck_keep 0 (ref_ClashCheck_L0 nf )) (ref_ClashCheck_m0 n' pairs t22) = ref_ClashCheck_l0 nf n' pairs  fu t22 := by
  intro fu
  induction fu with
  | zero => intros; rfl
  | succ fu ih =>
    intro t22
    rw [ref_ClashCheck_h0 nf  n' pairs fu t22]
    simp only [ih, ref_ClashCheck_e2]
    rfl
theorem ref_ClashCheck_eq (nf : Nat) (n' : Int) (pairs : List (Int × Int × Unit)) : runF tab (ref_ClashCheck_phi nf) ref_ClashCheck_keep nf [PT.val (Ty.int IntKind.i64) (Md.bor true false), PT.val ((Ty.int IntKind.i64).pair ((Ty.int IntKind.i64).pair Ty.unit)).sl (Md.bor true false)] [(Ty.int IntKind.i64, Md.bor false true)] (resL ([]) Try.f11) (codeOf Try.f11) ⟨n', pairs, ()⟩ = ref_ClashCheck_f nf n' pairs := by
  have h : runF tab (ref_ClashCheck_phi nf) ref_ClashCheck_keep nf [PT.val (Ty.int IntKind.i64) (Md.bor true false), PT.val ((Ty.int IntKind.i64).pair ((Ty.int IntKind.i64).pair Ty.unit)).sl (Md.bor true false)] [(Ty.int IntKind.i64, Md.bor false true)] (resL ([]) Try.f11) (codeOf Try.f11) ⟨n', pairs, ()⟩ = ref_ClashCheck_p nf (fun p0 p1 v0 => iter nf (LC.F tab (ref_ClashCheck_phi nf) (fun _ F => iter nf F) ref_ClashCheck_keep 0 (ref_ClashCheck_L0 nf)) (ref_ClashCheck_m0 p0 p1 v0)) n' pairs := by kernel_rfl
  rw [h]
  simp only [ref_ClashCheck_e0]
  rfl
def ref_ClashCheck_F (nf : Nat) (x : denPs [.val (.int .i64) (.bor true false), .val (.sl (.pair (.int .i64) (.pair (.int .i64) (.unit)))) (.bor true false)]) : Option (denL [(.int .i64, .bor false true)]) := ref_ClashCheck_f nf x.1 x.2.1
def ref_ClashCheck_C (nf : Nat) : Contract := ⟨[.val (.int .i64) (.bor true false), .val (.sl (.pair (.int .i64) (.pair (.int .i64) (.unit)))) (.bor true false)], [(.int .i64, .bor false true)], ref_ClashCheck_F nf, []⟩
theorem ref_ClashCheck_ok : FnOK Try.prog 11 := ⟨Try.f11, codeOf Try.f11, Try.func11, by kernel_rfl, by kernel_rfl⟩
theorem ref_ClashCheck_holds (nf : Nat) : Contract.Holds Try.prog 11 (ref_ClashCheck_C nf) :=
  fn_holds (Φ := ref_ClashCheck_phi nf) (keep := ref_ClashCheck_keep) (n := nf) ⟨tabs.1, tabs.2, (ctx_cons ref_Inside_ok (ref_Inside_holds nf) ctx_nil), mixed, bk_ok bkls rfl⟩ (fn := Try.f11) ⟨Try.func11, by kernel_rfl, by kernel_rfl, by kernel_rfl⟩ (fun x => ref_ClashCheck_eq nf x.1 x.2.1)

/-! codemason codemasonref.Clash -/
def ref_Clash_phi (nf : Nat) : Nat → Option Contract := lookC []
def ref_Clash_keep : Nat → List Nat := lookK [(0, [0, 1, 2, 9, 10, 11])]
def ref_Clash_b0 (nf : Nat) (pairs : List (Int × Int × Unit)) (a : Int) (b : Int) (g0 : Int → Option (Bool × Unit)) (t11 : Int) : Option (Bool × Unit) :=
  bif decide (t11 < (↑pairs.length : Int)) then
    bif inb t11 pairs.length then
      bif (pairs.getD t11.toNat (0, 0, ())).fst == a then
        bif (pairs.getD t11.toNat (0, 0, ())).snd.fst == b then
          some ((true, ()))
        else
          bif (pairs.getD t11.toNat (0, 0, ())).fst == b then
            bif (pairs.getD t11.toNat (0, 0, ())).snd.fst == a then
              some ((true, ()))
            else
              g0 (IntKind.i64.wrap (t11 + 1))
          else
            g0 (IntKind.i64.wrap (t11 + 1))
      else
        bif (pairs.getD t11.toNat (0, 0, ())).fst == b then
          bif (pairs.getD t11.toNat (0, 0, ())).snd.fst == a then
            some ((true, ()))
          else
            g0 (IntKind.i64.wrap (t11 + 1))
        else
          g0 (IntKind.i64.wrap (t11 + 1))
    else
      none
  else
    some ((false, ()))
def ref_Clash_p (nf : Nat) (l0 : List (Int × Int × Unit) → Int → Int → Int → Option (Bool × Unit)) (pairs : List (Int × Int × Unit)) (a : Int) (b : Int) : Option (Bool × Unit) :=
  l0 pairs a b 0
def ref_Clash_l0 (nf : Nat) (pairs : List (Int × Int × Unit)) (a : Int) (b : Int) : Nat → Int → Option (Bool × Unit)
  | 0, _ => none
  | fu + 1, t11 => ref_Clash_b0 nf  pairs a b  (ref_Clash_l0 nf pairs a b  fu) t11
def ref_Clash_f (nf : Nat) (pairs : List (Int × Int × Unit)) (a : Int) (b : Int) : Option (Bool × Unit) := ref_Clash_p nf (fun p0 p1 p2 v0 => ref_Clash_l0 nf p0 p1 p2 nf v0) pairs a b
noncomputable def ref_Clash_L0 (nf : Nat) : LC (Bool × Unit) := theL (findL tab (ref_Clash_phi nf) (fun _ F => iter nf F) ref_Clash_keep 0 0 (codeOf Try.f31) (fin tab [(Ty.bool, Md.bor false true)] (resL ([]) Try.f31)) (fun _ _ => none) (fin tab [(Ty.bool, Md.bor false true)] (resL ([]) Try.f31)))
def ref_Clash_m0 (pairs : List (Int × Int × Unit)) (a : Int) (b : Int) (t11 : Int) : St := ⟨fresh, [(0, AV.v ((Ty.int IntKind.i64).pair ((Ty.int IntKind.i64).pair Ty.unit)).sl (Md.bor true false) pairs), (1, AV.v (Ty.int IntKind.i64) (Md.bor false true) a), (2, AV.v (Ty.int IntKind.i64) (Md.bor false true) b), (9, AV.v ((Ty.int IntKind.i64).pair ((Ty.int IntKind.i64).pair Ty.unit)).sl (Md.bor true false) pairs), (10, AV.v (Ty.int IntKind.i64) (Md.bor false true) (↑pairs.length : Int)), (11, AV.v (Ty.int IntKind.i64) (Md.bor false true) t11)]⟩
theorem ref_Clash_h0 (nf : Nat)  (pairs : List (Int × Int × Unit)) (a : Int) (b : Int) (fu : Nat) (t11 : Int) : iter (fu + 1) (LC.F tab (ref_Clash_phi nf) (fun _ F => iter nf F) ref_Clash_keep 0 (ref_Clash_L0 nf )) (ref_Clash_m0 pairs a b t11) = ref_Clash_b0 nf  pairs a b  (fun t11 => iter fu (LC.F tab (ref_Clash_phi nf) (fun _ F => iter nf F) ref_Clash_keep 0 (ref_Clash_L0 nf )) (ref_Clash_m0 pairs a b t11)) t11 := by kernel_rfl
theorem ref_Clash_e0 (nf : Nat)  (pairs : List (Int × Int × Unit)) (a : Int) (b : Int) : ∀ (fu : Nat) (t11 : Int), iter fu (LC.F tab (ref_Clash_phi nf) (fun _ F => iter nf F) ref_Clash_keep 0 (ref_Clash_L0 nf )) (ref_Clash_m0 pairs a b t11) = ref_Clash_l0 nf pairs a b  fu t11 := by
  intro fu
  induction fu with
  | zero => intros; rfl
  | succ fu ih =>
    intro t11
    rw [ref_Clash_h0 nf  pairs a b fu t11]
    simp only [ih]
    rfl
theorem ref_Clash_eq (nf : Nat) (pairs : List (Int × Int × Unit)) (a : Int) (b : Int) : runF tab (ref_Clash_phi nf) ref_Clash_keep nf [PT.val ((Ty.int IntKind.i64).pair ((Ty.int IntKind.i64).pair Ty.unit)).sl (Md.bor true false), PT.val (Ty.int IntKind.i64) (Md.bor true false), PT.val (Ty.int IntKind.i64) (Md.bor true false)] [(Ty.bool, Md.bor false true)] (resL ([]) Try.f31) (codeOf Try.f31) ⟨pairs, a, b, ()⟩ = ref_Clash_f nf pairs a b := by
  have h : runF tab (ref_Clash_phi nf) ref_Clash_keep nf [PT.val ((Ty.int IntKind.i64).pair ((Ty.int IntKind.i64).pair Ty.unit)).sl (Md.bor true false), PT.val (Ty.int IntKind.i64) (Md.bor true false), PT.val (Ty.int IntKind.i64) (Md.bor true false)] [(Ty.bool, Md.bor false true)] (resL ([]) Try.f31) (codeOf Try.f31) ⟨pairs, a, b, ()⟩ = ref_Clash_p nf (fun p0 p1 p2 v0 => iter nf (LC.F tab (ref_Clash_phi nf) (fun _ F => iter nf F) ref_Clash_keep 0 (ref_Clash_L0 nf)) (ref_Clash_m0 p0 p1 p2 v0)) pairs a b := by kernel_rfl
  rw [h]
  simp only [ref_Clash_e0]
  rfl
def ref_Clash_F (nf : Nat) (x : denPs [.val (.sl (.pair (.int .i64) (.pair (.int .i64) (.unit)))) (.bor true false), .val (.int .i64) (.bor true false), .val (.int .i64) (.bor true false)]) : Option (denL [(.bool, .bor false true)]) := ref_Clash_f nf x.1 x.2.1 x.2.2.1
def ref_Clash_C (nf : Nat) : Contract := ⟨[.val (.sl (.pair (.int .i64) (.pair (.int .i64) (.unit)))) (.bor true false), .val (.int .i64) (.bor true false), .val (.int .i64) (.bor true false)], [(.bool, .bor false true)], ref_Clash_F nf, []⟩
theorem ref_Clash_ok : FnOK Try.prog 31 := ⟨Try.f31, codeOf Try.f31, Try.func31, by kernel_rfl, by kernel_rfl⟩
theorem ref_Clash_holds (nf : Nat) : Contract.Holds Try.prog 31 (ref_Clash_C nf) :=
  fn_holds (Φ := ref_Clash_phi nf) (keep := ref_Clash_keep) (n := nf) ⟨tabs.1, tabs.2, ctx_nil, mixed, bk_ok bkls rfl⟩ (fn := Try.f31) ⟨Try.func31, by kernel_rfl, by kernel_rfl, by kernel_rfl⟩ (fun x => ref_Clash_eq nf x.1 x.2.1 x.2.2.1)

/-! codemason codemasonref.Colored -/
def ref_Colored_tab : Tab := ⟨lookT [(2, .int .i64), (3, .int .i64), (4, .bool), (5, .int .u8), (6, .int .u8), (7, .pair (.int .i64) (.pair (.int .i64) (.pair (.bool) (.pair (.int .u8) (.unit))))), (8, .pair (.int .i64) (.pair (.int .i64) (.pair (.bool) (.pair (.int .u8) (.unit))))), (12, .int .u64), (21, .int .i32), (22, .sl (.pair (.int .i64) (.pair (.int .i64) (.unit)))), (23, .sl (.int .i64)), (24, .int .i64), (35, .int .u32), (43, .sl (.pair (.int .i64) (.pair (.int .i64) (.unit)))), (48, .sl (.int .u8)), (49, .sl (.pair (.int .i64) (.pair (.int .i64) (.pair (.int .i64) (.pair (.int .i64) (.pair (.int .i64) (.unit))))))), (53, .pair (.int .i64) (.pair (.int .i64) (.pair (.int .i64) (.pair (.int .i64) (.pair (.int .i64) (.unit)))))), (54, .pair (.int .i64) (.pair (.int .i64) (.pair (.int .i64) (.pair (.int .i64) (.pair (.int .i64) (.unit)))))), (56, .sl (.int .u32)), (61, .pair (.int .i64) (.pair (.int .i64) (.unit))), (64, .mp (.int .u32) (.bool)), (67, .int .u64), (77, .pair (.sl (.int .i64)) (.pair (.sl (.int .i64)) (.unit))), (78, .pair (.sl (.int .i64)) (.pair (.sl (.int .i64)) (.unit))), (79, .pair (.int .i64) (.pair (.int .i64) (.unit))), (80, .pair (.int .i64) (.pair (.int .i64) (.unit))), (84, .sl (.sl (.int .i64))), (88, .sl (.bool)), (96, .int .u8), (97, .int .u8), (100, .int .i32), (101, .int .i32)], lookM [(2, .bor false true), (3, .bor false true), (4, .bor false true), (5, .bor false true), (6, .bor false true), (7, .bor false true), (8, .bor false true), (12, .bor false true), (21, .bor false true), (22, .own false (.bor false false)), (23, .own true (.bor false false)), (24, .bor false true), (35, .bor false true), (43, .own false (.bor false false)), (48, .own false (.bor false false)), (49, .own false (.bor false false)), (53, .bor false true), (54, .bor false true), (56, .own false (.bor false false)), (61, .bor false true), (64, .own false (.bor false false)), (67, .bor false true), (77, .bor true false), (78, .pair (.own false (.bor false false)) (.pair (.own false (.bor false false)) (.bor false false))), (79, .bor false true), (80, .bor false true), (84, .own false (.bor false false)), (88, .own false (.bor false false)), (96, .bor false true), (97, .bor false true), (100, .bor false true), (101, .bor false true)], hasT [61, 92], hasT [9, 10, 11], fun _ => none, lookB bkl⟩
theorem ref_Colored_tabs : TabOK Try.prog ref_Colored_tab ∧ EqOK Try.prog ref_Colored_tab := tab_ok (by kernel_rfl) (by kernel_rfl)
def ref_Colored_phi (nf : Nat) (self : denPs [.val (.int .i64) (.bor true false), .val (.sl (.pair (.int .i64) (.pair (.int .i64) (.unit)))) (.bor true false), .val (.int .i64) (.bor true false), .val (.sl (.int .i64)) (.own true (.bor false false))] → Option (denL [(.sl (.int .i64), .own true (.bor false false))])) : Nat → Option Contract := lookC [(12, ⟨[.val (.int .i64) (.bor true false), .val (.sl (.pair (.int .i64) (.pair (.int .i64) (.unit)))) (.bor true false), .val (.int .i64) (.bor true false), .val (.sl (.int .i64)) (.own true (.bor false false))], [(.sl (.int .i64), .own true (.bor false false))], self, []⟩), (31, ref_Clash_C nf)]
def ref_Colored_keep : Nat → List Nat := lookK [(2, [0, 1, 2, 3, 9, 10, 11]), (0, [0, 1, 2, 3, 9])]
def ref_Colored_b0 (nf : Nat) (self : denPs [.val (.int .i64) (.bor true false), .val (.sl (.pair (.int .i64) (.pair (.int .i64) (.unit)))) (.bor true false), .val (.int .i64) (.bor true false), .val (.sl (.int .i64)) (.own true (.bor false false))] → Option (denL [(.sl (.int .i64), .own true (.bor false false))])) (l2 : Int → List (Int × Int × Unit) → Int → Int → List Int → Bool → Int → Option (List Int × Unit)) (n' : Int) (pairs : List (Int × Int × Unit)) (k' : Int) (g0 : List Int → Int → Option (List Int × Unit)) (l'2 : List Int) (c : Int) : Option (List Int × Unit) :=
  bif decide (c < k') then
    l2 n' pairs k' c l'2 true 0
  else
    some (([], ()))
def ref_Colored_b2 (nf : Nat) (self : denPs [.val (.int .i64) (.bor true false), .val (.sl (.pair (.int .i64) (.pair (.int .i64) (.unit)))) (.bor true false), .val (.int .i64) (.bor true false), .val (.sl (.int .i64)) (.own true (.bor false false))] → Option (denL [(.sl (.int .i64), .own true (.bor false false))])) (n' : Int) (pairs : List (Int × Int × Unit)) (k' : Int) (c : Int) (g0 : List Int → Int → Option (List Int × Unit)) (g2 : List Int → Bool → Int → Option (List Int × Unit)) (l'3 : List Int) (ok : Bool) (j : Int) : Option (List Int × Unit) :=
  bif decide (j < (↑l'3.length : Int)) then
    bif inb j l'3.length then
      bif l'3.getD j.toNat 0 == c then
        Option.bind (ref_Clash_f nf pairs j ((↑l'3.length : Int))) fun r =>
        bif r.fst then
          g2 l'3 false (IntKind.i64.wrap (j + 1))
        else
          g2 l'3 ok (IntKind.i64.wrap (j + 1))
      else
        g2 l'3 ok (IntKind.i64.wrap (j + 1))
    else
      none
  else
    bif ok then
      bif bimp false !l'3.isEmpty && ((List.length ([] : List Unit)) + l'3.length).ble lim then
        bif bimp false ![c].isEmpty && (([] ++ l'3).length + [c].length).ble lim then
          bif !([] ++ l'3 ++ [c]).isEmpty then
            Option.bind (self (n', pairs, k', [] ++ l'3 ++ [c], ())) fun r2 =>
            bif !List.isEmpty r2.fst then
              some ((r2.fst, ()))
            else
              g0 l'3 (IntKind.i64.wrap (c + 1))
          else
            none
        else
          none
      else
        none
    else
      g0 l'3 (IntKind.i64.wrap (c + 1))
def ref_Colored_p (nf : Nat) (self : denPs [.val (.int .i64) (.bor true false), .val (.sl (.pair (.int .i64) (.pair (.int .i64) (.unit)))) (.bor true false), .val (.int .i64) (.bor true false), .val (.sl (.int .i64)) (.own true (.bor false false))] → Option (denL [(.sl (.int .i64), .own true (.bor false false))])) (l0 : Int → List (Int × Int × Unit) → Int → List Int → Int → Option (List Int × Unit)) (n' : Int) (pairs : List (Int × Int × Unit)) (k' : Int) (l' : List Int) : Option (List Int × Unit) :=
  bif (↑l'.length : Int) == n' then
    some ((l', ()))
  else
    l0 n' pairs k' l' 0
def ref_Colored_l2 (nf : Nat) (self : denPs [.val (.int .i64) (.bor true false), .val (.sl (.pair (.int .i64) (.pair (.int .i64) (.unit)))) (.bor true false), .val (.int .i64) (.bor true false), .val (.sl (.int .i64)) (.own true (.bor false false))] → Option (denL [(.sl (.int .i64), .own true (.bor false false))])) (n' : Int) (pairs : List (Int × Int × Unit)) (k' : Int) (c : Int) (g0 : List Int → Int → Option (List Int × Unit)) : Nat → List Int → Bool → Int → Option (List Int × Unit)
  | 0, _, _, _ => none
  | fu + 1, l'3, ok, j => ref_Colored_b2 nf self  n' pairs k' c g0 (ref_Colored_l2 nf self n' pairs k' c g0 fu) l'3 ok j
def ref_Colored_l0 (nf : Nat) (self : denPs [.val (.int .i64) (.bor true false), .val (.sl (.pair (.int .i64) (.pair (.int .i64) (.unit)))) (.bor true false), .val (.int .i64) (.bor true false), .val (.sl (.int .i64)) (.own true (.bor false false))] → Option (denL [(.sl (.int .i64), .own true (.bor false false))])) (n' : Int) (pairs : List (Int × Int × Unit)) (k' : Int) : Nat → List Int → Int → Option (List Int × Unit)
  | 0, _, _ => none
  | fu + 1, l'2, c => ref_Colored_b0 nf self (fun _ _ _ p3 v0 v1 v2 => ref_Colored_l2 nf self n' pairs k' p3 (fun l'2 c => ref_Colored_l0 nf self n' pairs k'  fu l'2 c) nf v0 v1 v2) n' pairs k'  (ref_Colored_l0 nf self n' pairs k'  fu) l'2 c
def ref_Colored_f (nf : Nat) (self : denPs [.val (.int .i64) (.bor true false), .val (.sl (.pair (.int .i64) (.pair (.int .i64) (.unit)))) (.bor true false), .val (.int .i64) (.bor true false), .val (.sl (.int .i64)) (.own true (.bor false false))] → Option (denL [(.sl (.int .i64), .own true (.bor false false))])) (n' : Int) (pairs : List (Int × Int × Unit)) (k' : Int) (l' : List Int) : Option (List Int × Unit) := ref_Colored_p nf self (fun p0 p1 p2 v0 v1 => ref_Colored_l0 nf self p0 p1 p2 nf v0 v1) n' pairs k' l'
noncomputable def ref_Colored_L0 (nf : Nat) (self : denPs [.val (.int .i64) (.bor true false), .val (.sl (.pair (.int .i64) (.pair (.int .i64) (.unit)))) (.bor true false), .val (.int .i64) (.bor true false), .val (.sl (.int .i64)) (.own true (.bor false false))] → Option (denL [(.sl (.int .i64), .own true (.bor false false))])) : LC (List Int × Unit) := theL (findL ref_Colored_tab (ref_Colored_phi nf self) (fun _ F => iter nf F) ref_Colored_keep 0 0 (codeOf Try.f12) (fin ref_Colored_tab [((Ty.int IntKind.i64).sl, Md.own true (Md.bor false false))] (resL ([]) Try.f12)) (fun _ _ => none) (fin ref_Colored_tab [((Ty.int IntKind.i64).sl, Md.own true (Md.bor false false))] (resL ([]) Try.f12)))
def ref_Colored_m0 (n' : Int) (pairs : List (Int × Int × Unit)) (k' : Int) (l'2 : List Int) (c : Int) : St := ⟨fresh, [(0, AV.v (Ty.int IntKind.i64) (Md.bor false true) n'), (1, AV.v ((Ty.int IntKind.i64).pair ((Ty.int IntKind.i64).pair Ty.unit)).sl (Md.bor true false) pairs), (2, AV.v (Ty.int IntKind.i64) (Md.bor false true) k'), (3, AV.ow 500003 (Ty.int IntKind.i64).sl (Md.own true (Md.bor false false)) l'2), (9, AV.v (Ty.int IntKind.i64) (Md.bor false true) c)]⟩
noncomputable def ref_Colored_L2 (nf : Nat) (self : denPs [.val (.int .i64) (.bor true false), .val (.sl (.pair (.int .i64) (.pair (.int .i64) (.unit)))) (.bor true false), .val (.int .i64) (.bor true false), .val (.sl (.int .i64)) (.own true (.bor false false))] → Option (denL [(.sl (.int .i64), .own true (.bor false false))])) (G0 : St → Option (List Int × Unit)) : LC (List Int × Unit) := theL (findL ref_Colored_tab (ref_Colored_phi nf self) (fun _ F => iter nf F) ref_Colored_keep 2 0 (ref_Colored_L0 nf self ).c (fun st => norm (ref_Colored_keep 0) st G0) (ref_Colored_L0 nf self ).Kx (ref_Colored_L0 nf self ).Kr)
def ref_Colored_m2 (n' : Int) (pairs : List (Int × Int × Unit)) (k' : Int) (c : Int) (l'3 : List Int) (ok : Bool) (j : Int) : St := ⟨fresh, [(0, AV.v (Ty.int IntKind.i64) (Md.bor false true) n'), (1, AV.v ((Ty.int IntKind.i64).pair ((Ty.int IntKind.i64).pair Ty.unit)).sl (Md.bor true false) pairs), (2, AV.v (Ty.int IntKind.i64) (Md.bor false true) k'), (3, AV.ow 500003 (Ty.int IntKind.i64).sl (Md.own true (Md.bor false false)) l'3), (9, AV.v (Ty.int IntKind.i64) (Md.bor false true) c), (10, AV.v Ty.bool (Md.bor false true) ok), (11, AV.v (Ty.int IntKind.i64) (Md.bor false true) j)]⟩
theorem ref_Colored_h2 (nf : Nat) (self : denPs [.val (.int .i64) (.bor true false), .val (.sl (.pair (.int .i64) (.pair (.int .i64) (.unit)))) (.bor true false), .val (.int .i64) (.bor true false), .val (.sl (.int .i64)) (.own true (.bor false false))] → Option (denL [(.sl (.int .i64), .own true (.bor false false))])) (G0 : St → Option (List Int × Unit)) (n' : Int) (pairs : List (Int × Int × Unit)) (k' : Int) (c : Int) (fu : Nat) (l'3 : List Int) (ok : Bool) (j : Int) : iter (fu + 1) (LC.F ref_Colored_tab (ref_Colored_phi nf self) (fun _ F => iter nf F) ref_Colored_keep 2 (ref_Colored_L2 nf self G0)) (ref_Colored_m2 n' pairs k' c l'3 ok j) = ref_Colored_b2 nf self  n' pairs k' c (fun l'2 c => G0 (ref_Colored_m0 n' pairs k' l'2 c)) (fun l'3 ok j => iter fu (LC.F ref_Colored_tab (ref_Colored_phi nf self) (fun _ F => iter nf F) ref_Colored_keep 2 (ref_Colored_L2 nf self G0)) (ref_Colored_m2 n' pairs k' c l'3 ok j)) l'3 ok j := by kernel_rfl
theorem ref_Colored_e2 (nf : Nat) (self : denPs [.val (.int .i64) (.bor true false), .val (.sl (.pair (.int .i64) (.pair (.int .i64) (.unit)))) (.bor true false), .val (.int .i64) (.bor true false), .val (.sl (.int .i64)) (.own true (.bor false false))] → Option (denL [(.sl (.int .i64), .own true (.bor false false))])) (G0 : St → Option (List Int × Unit)) (n' : Int) (pairs : List (Int × Int × Unit)) (k' : Int) (c : Int) : ∀ (fu : Nat) (l'3 : List Int) (ok : Bool) (j : Int), iter fu (LC.F ref_Colored_tab (ref_Colored_phi nf self) (fun _ F => iter nf F) ref_Colored_keep 2 (ref_Colored_L2 nf self G0)) (ref_Colored_m2 n' pairs k' c l'3 ok j) = ref_Colored_l2 nf self n' pairs k' c (fun l'2 c => G0 (ref_Colored_m0 n' pairs k' l'2 c)) fu l'3 ok j := by
  intro fu
  induction fu with
  | zero => intros; rfl
  | succ fu ih =>
    intro l'3 ok j
    rw [ref_Colored_h2 nf self G0 n' pairs k' c fu l'3 ok j]
    simp only [ih]
    rfl
theorem ref_Colored_h0 (nf : Nat) (self : denPs [.val (.int .i64) (.bor true false), .val (.sl (.pair (.int .i64) (.pair (.int .i64) (.unit)))) (.bor true false), .val (.int .i64) (.bor true false), .val (.sl (.int .i64)) (.own true (.bor false false))] → Option (denL [(.sl (.int .i64), .own true (.bor false false))]))  (n' : Int) (pairs : List (Int × Int × Unit)) (k' : Int) (fu : Nat) (l'2 : List Int) (c : Int) : iter (fu + 1) (LC.F ref_Colored_tab (ref_Colored_phi nf self) (fun _ F => iter nf F) ref_Colored_keep 0 (ref_Colored_L0 nf self )) (ref_Colored_m0 n' pairs k' l'2 c) = ref_Colored_b0 nf self (fun _ _ _ p3 v0 v1 v2 => iter nf (LC.F ref_Colored_tab (ref_Colored_phi nf self) (fun _ F => iter nf F) ref_Colored_keep 2 (ref_Colored_L2 nf self (iter fu (LC.F ref_Colored_tab (ref_Colored_phi nf self) (fun _ F => iter nf F) ref_Colored_keep 0 (ref_Colored_L0 nf self ))))) (ref_Colored_m2 n' pairs k' p3 v0 v1 v2)) n' pairs k'  (fun l'2 c => iter fu (LC.F ref_Colored_tab (ref_Colored_phi nf self) (fun _ F => iter nf F) ref_Colored_keep 0 (ref_Colored_L0 nf self )) (ref_Colored_m0 n' pairs k' l'2 c)) l'2 c := by kernel_rfl
theorem ref_Colored_e0 (nf : Nat) (self : denPs [.val (.int .i64) (.bor true false), .val (.sl (.pair (.int .i64) (.pair (.int .i64) (.unit)))) (.bor true false), .val (.int .i64) (.bor true false), .val (.sl (.int .i64)) (.own true (.bor false false))] → Option (denL [(.sl (.int .i64), .own true (.bor false false))]))  (n' : Int) (pairs : List (Int × Int × Unit)) (k' : Int) : ∀ (fu : Nat) (l'2 : List Int) (c : Int), iter fu (LC.F ref_Colored_tab (ref_Colored_phi nf self) (fun _ F => iter nf F) ref_Colored_keep 0 (ref_Colored_L0 nf self )) (ref_Colored_m0 n' pairs k' l'2 c) = ref_Colored_l0 nf self n' pairs k'  fu l'2 c := by
  intro fu
  induction fu with
  | zero => intros; rfl
  | succ fu ih =>
    intro l'2 c
    rw [ref_Colored_h0 nf self  n' pairs k' fu l'2 c]
    simp only [ih, ref_Colored_e2]
    rfl
theorem ref_Colored_eq (nf : Nat) (self : denPs [.val (.int .i64) (.bor true false), .val (.sl (.pair (.int .i64) (.pair (.int .i64) (.unit)))) (.bor true false), .val (.int .i64) (.bor true false), .val (.sl (.int .i64)) (.own true (.bor false false))] → Option (denL [(.sl (.int .i64), .own true (.bor false false))])) (n' : Int) (pairs : List (Int × Int × Unit)) (k' : Int) (l' : List Int) : runF ref_Colored_tab (ref_Colored_phi nf self) ref_Colored_keep nf [PT.val (Ty.int IntKind.i64) (Md.bor true false), PT.val ((Ty.int IntKind.i64).pair ((Ty.int IntKind.i64).pair Ty.unit)).sl (Md.bor true false), PT.val (Ty.int IntKind.i64) (Md.bor true false), PT.val (Ty.int IntKind.i64).sl (Md.own true (Md.bor false false))] [((Ty.int IntKind.i64).sl, Md.own true (Md.bor false false))] (resL ([]) Try.f12) (codeOf Try.f12) ⟨n', pairs, k', l', ()⟩ = ref_Colored_f nf self n' pairs k' l' := by
  have h : runF ref_Colored_tab (ref_Colored_phi nf self) ref_Colored_keep nf [PT.val (Ty.int IntKind.i64) (Md.bor true false), PT.val ((Ty.int IntKind.i64).pair ((Ty.int IntKind.i64).pair Ty.unit)).sl (Md.bor true false), PT.val (Ty.int IntKind.i64) (Md.bor true false), PT.val (Ty.int IntKind.i64).sl (Md.own true (Md.bor false false))] [((Ty.int IntKind.i64).sl, Md.own true (Md.bor false false))] (resL ([]) Try.f12) (codeOf Try.f12) ⟨n', pairs, k', l', ()⟩ = ref_Colored_p nf self (fun p0 p1 p2 v0 v1 => iter nf (LC.F ref_Colored_tab (ref_Colored_phi nf self) (fun _ F => iter nf F) ref_Colored_keep 0 (ref_Colored_L0 nf self)) (ref_Colored_m0 p0 p1 p2 v0 v1)) n' pairs k' l' := by kernel_rfl
  rw [h]
  simp only [ref_Colored_e0]
  rfl
def ref_Colored_F : Nat → denPs [.val (.int .i64) (.bor true false), .val (.sl (.pair (.int .i64) (.pair (.int .i64) (.unit)))) (.bor true false), .val (.int .i64) (.bor true false), .val (.sl (.int .i64)) (.own true (.bor false false))] → Option (denL [(.sl (.int .i64), .own true (.bor false false))])
  | 0, _ => none
  | nf + 1, x => ref_Colored_f nf (ref_Colored_F nf) x.1 x.2.1 x.2.2.1 x.2.2.2.1
def ref_Colored_C (nf : Nat) : Contract := ⟨[.val (.int .i64) (.bor true false), .val (.sl (.pair (.int .i64) (.pair (.int .i64) (.unit)))) (.bor true false), .val (.int .i64) (.bor true false), .val (.sl (.int .i64)) (.own true (.bor false false))], [(.sl (.int .i64), .own true (.bor false false))], ref_Colored_F nf, []⟩
theorem ref_Colored_ok : FnOK Try.prog 12 := ⟨Try.f12, codeOf Try.f12, Try.func12, by kernel_rfl, by kernel_rfl⟩
theorem ref_Colored_holds : ∀ (nf : Nat), Contract.Holds Try.prog 12 (ref_Colored_C nf)
  | 0 => fun _ _ h => by cases h
  | nf + 1 => by
    have ih := ref_Colored_holds nf
    exact fn_holds (Φ := ref_Colored_phi nf (ref_Colored_F nf)) (keep := ref_Colored_keep) (n := nf) ⟨ref_Colored_tabs.1, ref_Colored_tabs.2, (ctx_cons ref_Colored_ok (ih) (ctx_cons ref_Clash_ok (ref_Clash_holds nf) ctx_nil)), mixed, bk_ok bkls rfl⟩ (fn := Try.f12) ⟨Try.func12, by kernel_rfl, by kernel_rfl, by kernel_rfl⟩ (fun x => ref_Colored_eq nf (ref_Colored_F nf) x.1 x.2.1 x.2.2.1 x.2.2.2.1)

/-! codemason codemasonref.Ints -/
def ref_Ints_phi (nf : Nat) : Nat → Option Contract := lookC []
def ref_Ints_keep : Nat → List Nat := lookK [(0, [0, 1, 5])]
def ref_Ints_b0 (nf : Nat) (a : List Int) (b : List Int) (g0 : Int → Option (Bool × Unit)) (i : Int) : Option (Bool × Unit) :=
  bif decide (i < (↑a.length : Int)) then
    bif inb i a.length then
      bif inb i b.length then
        bif a.getD i.toNat 0 != b.getD i.toNat 0 then
          some ((false, ()))
        else
          g0 (IntKind.i64.wrap (i + 1))
      else
        none
    else
      none
  else
    some ((true, ()))
def ref_Ints_p (nf : Nat) (l0 : List Int → List Int → Int → Option (Bool × Unit)) (a : List Int) (b : List Int) : Option (Bool × Unit) :=
  bif (↑a.length : Int) != (↑b.length : Int) then
    some ((false, ()))
  else
    l0 a b 0
def ref_Ints_l0 (nf : Nat) (a : List Int) (b : List Int) : Nat → Int → Option (Bool × Unit)
  | 0, _ => none
  | fu + 1, i => ref_Ints_b0 nf  a b  (ref_Ints_l0 nf a b  fu) i
def ref_Ints_f (nf : Nat) (a : List Int) (b : List Int) : Option (Bool × Unit) := ref_Ints_p nf (fun p0 p1 v0 => ref_Ints_l0 nf p0 p1 nf v0) a b
noncomputable def ref_Ints_L0 (nf : Nat) : LC (Bool × Unit) := theL (findL tab (ref_Ints_phi nf) (fun _ F => iter nf F) ref_Ints_keep 0 0 (codeOf Try.f13) (fin tab [(Ty.bool, Md.bor false true)] (resL ([]) Try.f13)) (fun _ _ => none) (fin tab [(Ty.bool, Md.bor false true)] (resL ([]) Try.f13)))
def ref_Ints_m0 (a : List Int) (b : List Int) (i : Int) : St := ⟨fresh, [(0, AV.v (Ty.int IntKind.i64).sl (Md.bor true false) a), (1, AV.v (Ty.int IntKind.i64).sl (Md.bor true false) b), (5, AV.v (Ty.int IntKind.i64) (Md.bor false true) i)]⟩
theorem ref_Ints_h0 (nf : Nat)  (a : List Int) (b : List Int) (fu : Nat) (i : Int) : iter (fu + 1) (LC.F tab (ref_Ints_phi nf) (fun _ F => iter nf F) ref_Ints_keep 0 (ref_Ints_L0 nf )) (ref_Ints_m0 a b i) = ref_Ints_b0 nf  a b  (fun i => iter fu (LC.F tab (ref_Ints_phi nf) (fun _ F => iter nf F) ref_Ints_keep 0 (ref_Ints_L0 nf )) (ref_Ints_m0 a b i)) i := by kernel_rfl
theorem ref_Ints_e0 (nf : Nat)  (a : List Int) (b : List Int) : ∀ (fu : Nat) (i : Int), iter fu (LC.F tab (ref_Ints_phi nf) (fun _ F => iter nf F) ref_Ints_keep 0 (ref_Ints_L0 nf )) (ref_Ints_m0 a b i) = ref_Ints_l0 nf a b  fu i := by
  intro fu
  induction fu with
  | zero => intros; rfl
  | succ fu ih =>
    intro i
    rw [ref_Ints_h0 nf  a b fu i]
    simp only [ih]
    rfl
theorem ref_Ints_eq (nf : Nat) (a : List Int) (b : List Int) : runF tab (ref_Ints_phi nf) ref_Ints_keep nf [PT.val (Ty.int IntKind.i64).sl (Md.bor true false), PT.val (Ty.int IntKind.i64).sl (Md.bor true false)] [(Ty.bool, Md.bor false true)] (resL ([]) Try.f13) (codeOf Try.f13) ⟨a, b, ()⟩ = ref_Ints_f nf a b := by
  have h : runF tab (ref_Ints_phi nf) ref_Ints_keep nf [PT.val (Ty.int IntKind.i64).sl (Md.bor true false), PT.val (Ty.int IntKind.i64).sl (Md.bor true false)] [(Ty.bool, Md.bor false true)] (resL ([]) Try.f13) (codeOf Try.f13) ⟨a, b, ()⟩ = ref_Ints_p nf (fun p0 p1 v0 => iter nf (LC.F tab (ref_Ints_phi nf) (fun _ F => iter nf F) ref_Ints_keep 0 (ref_Ints_L0 nf)) (ref_Ints_m0 p0 p1 v0)) a b := by kernel_rfl
  rw [h]
  simp only [ref_Ints_e0]
  rfl
def ref_Ints_F (nf : Nat) (x : denPs [.val (.sl (.int .i64)) (.bor true false), .val (.sl (.int .i64)) (.bor true false)]) : Option (denL [(.bool, .bor false true)]) := ref_Ints_f nf x.1 x.2.1
def ref_Ints_C (nf : Nat) : Contract := ⟨[.val (.sl (.int .i64)) (.bor true false), .val (.sl (.int .i64)) (.bor true false)], [(.bool, .bor false true)], ref_Ints_F nf, []⟩
theorem ref_Ints_ok : FnOK Try.prog 13 := ⟨Try.f13, codeOf Try.f13, Try.func13, by kernel_rfl, by kernel_rfl⟩
theorem ref_Ints_holds (nf : Nat) : Contract.Holds Try.prog 13 (ref_Ints_C nf) :=
  fn_holds (Φ := ref_Ints_phi nf) (keep := ref_Ints_keep) (n := nf) ⟨tabs.1, tabs.2, ctx_nil, mixed, bk_ok bkls rfl⟩ (fn := Try.f13) ⟨Try.func13, by kernel_rfl, by kernel_rfl, by kernel_rfl⟩ (fun x => ref_Ints_eq nf x.1 x.2.1)

/-! codemason codemasonlaw.ColorLeasts -/
def law_ColorLeasts_tab : Tab := ⟨lookT [(2, .int .i64), (3, .int .i64), (4, .bool), (5, .int .u8), (6, .int .u8), (7, .pair (.int .i64) (.pair (.int .i64) (.pair (.bool) (.pair (.int .u8) (.unit))))), (8, .pair (.int .i64) (.pair (.int .i64) (.pair (.bool) (.pair (.int .u8) (.unit))))), (12, .int .u64), (21, .int .i32), (22, .sl (.pair (.int .i64) (.pair (.int .i64) (.unit)))), (23, .sl (.int .i64)), (24, .int .i64), (35, .int .u32), (43, .sl (.pair (.int .i64) (.pair (.int .i64) (.unit)))), (48, .sl (.int .u8)), (49, .sl (.pair (.int .i64) (.pair (.int .i64) (.pair (.int .i64) (.pair (.int .i64) (.pair (.int .i64) (.unit))))))), (53, .pair (.int .i64) (.pair (.int .i64) (.pair (.int .i64) (.pair (.int .i64) (.pair (.int .i64) (.unit)))))), (54, .pair (.int .i64) (.pair (.int .i64) (.pair (.int .i64) (.pair (.int .i64) (.pair (.int .i64) (.unit)))))), (56, .sl (.int .u32)), (61, .pair (.int .i64) (.pair (.int .i64) (.unit))), (64, .mp (.int .u32) (.bool)), (67, .int .u64), (77, .pair (.sl (.int .i64)) (.pair (.sl (.int .i64)) (.unit))), (78, .pair (.sl (.int .i64)) (.pair (.sl (.int .i64)) (.unit))), (79, .pair (.int .i64) (.pair (.int .i64) (.unit))), (80, .pair (.int .i64) (.pair (.int .i64) (.unit))), (84, .sl (.sl (.int .i64))), (88, .sl (.bool)), (96, .int .u8), (97, .int .u8), (100, .int .i32), (101, .int .i32)], lookM [(2, .bor false true), (3, .bor false true), (4, .bor false true), (5, .bor false true), (6, .bor false true), (7, .bor false true), (8, .bor false true), (12, .bor false true), (21, .bor false true), (22, .own false (.bor false false)), (23, .own true (.bor false false)), (24, .bor false true), (35, .bor false true), (43, .own false (.bor false false)), (48, .own false (.bor false false)), (49, .own false (.bor false false)), (53, .bor false true), (54, .bor false true), (56, .own false (.bor false false)), (61, .bor false true), (64, .own false (.bor false false)), (67, .bor false true), (77, .bor true false), (78, .pair (.own false (.bor false false)) (.pair (.own false (.bor false false)) (.bor false false))), (79, .bor false true), (80, .bor false true), (84, .own false (.bor false false)), (88, .own false (.bor false false)), (96, .bor false true), (97, .bor false true), (100, .bor false true), (101, .bor false true)], hasT [61, 92], hasT [9, 10, 11], fun _ => none, lookB bkl⟩
theorem law_ColorLeasts_tabs : TabOK Try.prog law_ColorLeasts_tab ∧ EqOK Try.prog law_ColorLeasts_tab := tab_ok (by kernel_rfl) (by kernel_rfl)
def law_ColorLeasts_phi (nf : Nat) : Nat → Option Contract := lookC [(10, color_Least_C nf), (11, ref_ClashCheck_C nf), (12, ref_Colored_C nf), (13, ref_Ints_C nf)]
def law_ColorLeasts_keep : Nat → List Nat := lookK [(0, [0, 1, 5, 6, 8, 9, 10, 13, 14, 36])]
def law_ColorLeasts_b0 (nf : Nat) (n' : Int) (pairs : List (Int × Int × Unit)) (r : List Int × Int × Unit) (g0 : List Int → List Int → Int → Option (Bool × Unit)) (l' : List Int) (want : List Int) (k' : Int) : Option (Bool × Unit) :=
  bif want.isEmpty then
    Option.bind (ref_Colored_F nf (n', pairs, k', [], ())) fun r3 =>
    g0 l' r3.fst (IntKind.i64.wrap (k' + 1))
  else
    bif r.snd.fst == 0 then
      Option.bind (ref_Ints_f nf l' want) fun r4 =>
      some ((r4.fst, ()))
    else
      some ((false, ()))
def law_ColorLeasts_p (nf : Nat) (l0 : Int → List (Int × Int × Unit) → List Int × Int × Unit → List Int → List Int → Int → Option (Bool × Unit)) (n' : Int) (pairs : List (Int × Int × Unit)) : Option (Bool × Unit) :=
  Option.bind (color_Least_f nf n' pairs) fun r =>
  Option.bind (ref_ClashCheck_f nf n' pairs) fun r2 =>
  bif r2.fst != 0 then
    bif r.snd.fst == r2.fst then
      some (((↑(List.length r.fst) : Int) == 0, ()))
    else
      some ((false, ()))
  else
    l0 n' pairs r r.fst [] 1
def law_ColorLeasts_l0 (nf : Nat) (n' : Int) (pairs : List (Int × Int × Unit)) (r : List Int × Int × Unit) : Nat → List Int → List Int → Int → Option (Bool × Unit)
  | 0, _, _, _ => none
  | fu + 1, l', want, k' => law_ColorLeasts_b0 nf  n' pairs r  (law_ColorLeasts_l0 nf n' pairs r  fu) l' want k'
def law_ColorLeasts_f (nf : Nat) (n' : Int) (pairs : List (Int × Int × Unit)) : Option (Bool × Unit) := law_ColorLeasts_p nf (fun p0 p1 p2 v0 v1 v2 => law_ColorLeasts_l0 nf p0 p1 p2 nf v0 v1 v2) n' pairs
noncomputable def law_ColorLeasts_L0 (nf : Nat) : LC (Bool × Unit) := theL (findL law_ColorLeasts_tab (law_ColorLeasts_phi nf) (fun _ F => iter nf F) law_ColorLeasts_keep 0 0 (codeOf Try.f3) (fin law_ColorLeasts_tab [(Ty.bool, Md.bor false true)] (resL ([]) Try.f3)) (fun _ _ => none) (fin law_ColorLeasts_tab [(Ty.bool, Md.bor false true)] (resL ([]) Try.f3)))
def law_ColorLeasts_m0 (n' : Int) (pairs : List (Int × Int × Unit)) (r : List Int × Int × Unit) (l' : List Int) (want : List Int) (k' : Int) : St := ⟨fresh, [(0, AV.v (Ty.int IntKind.i64) (Md.bor false true) n'), (1, AV.v ((Ty.int IntKind.i64).pair ((Ty.int IntKind.i64).pair Ty.unit)).sl (Md.bor false false) pairs), (5, AV.ow 500005 (Ty.int IntKind.i64).sl (Md.own true (Md.bor false false)) l'), (6, AV.v (Ty.int IntKind.i64) (Md.bor false true) r.snd.fst), (8, AV.ow 500008 (Ty.int IntKind.i64).sl (Md.own true (Md.bor false false)) want), (9, AV.v (Ty.int IntKind.i64) (Md.bor false true) k'), (10, AV.dead), (13, AV.dead), (14, AV.dead), (36, AV.dead)]⟩
theorem law_ColorLeasts_h0 (nf : Nat)  (n' : Int) (pairs : List (Int × Int × Unit)) (r : List Int × Int × Unit) (fu : Nat) (l' : List Int) (want : List Int) (k' : Int) : iter (fu + 1) (LC.F law_ColorLeasts_tab (law_ColorLeasts_phi nf) (fun _ F => iter nf F) law_ColorLeasts_keep 0 (law_ColorLeasts_L0 nf )) (law_ColorLeasts_m0 n' pairs r l' want k') = law_ColorLeasts_b0 nf  n' pairs r  (fun l' want k' => iter fu (LC.F law_ColorLeasts_tab (law_ColorLeasts_phi nf) (fun _ F => iter nf F) law_ColorLeasts_keep 0 (law_ColorLeasts_L0 nf )) (law_ColorLeasts_m0 n' pairs r l' want k')) l' want k' := by kernel_rfl
theorem law_ColorLeasts_e0 (nf : Nat)  (n' : Int) (pairs : List (Int × Int × Unit)) (r : List Int × Int × Unit) : ∀ (fu : Nat) (l' : List Int) (want : List Int) (k' : Int), iter fu (LC.F law_ColorLeasts_tab (law_ColorLeasts_phi nf) (fun _ F => iter nf F) law_ColorLeasts_keep 0 (law_ColorLeasts_L0 nf )) (law_ColorLeasts_m0 n' pairs r l' want k') = law_ColorLeasts_l0 nf n' pairs r  fu l' want k' := by
  intro fu
  induction fu with
  | zero => intros; rfl
  | succ fu ih =>
    intro l' want k'
    rw [law_ColorLeasts_h0 nf  n' pairs r fu l' want k']
    simp only [ih]
    rfl
theorem law_ColorLeasts_eq (nf : Nat) (n' : Int) (pairs : List (Int × Int × Unit)) : runF law_ColorLeasts_tab (law_ColorLeasts_phi nf) law_ColorLeasts_keep nf [PT.val (Ty.int IntKind.i64) (Md.bor false false), PT.val ((Ty.int IntKind.i64).pair ((Ty.int IntKind.i64).pair Ty.unit)).sl (Md.bor false false)] [(Ty.bool, Md.bor false true)] (resL ([]) Try.f3) (codeOf Try.f3) ⟨n', pairs, ()⟩ = law_ColorLeasts_f nf n' pairs := by
  have h : runF law_ColorLeasts_tab (law_ColorLeasts_phi nf) law_ColorLeasts_keep nf [PT.val (Ty.int IntKind.i64) (Md.bor false false), PT.val ((Ty.int IntKind.i64).pair ((Ty.int IntKind.i64).pair Ty.unit)).sl (Md.bor false false)] [(Ty.bool, Md.bor false true)] (resL ([]) Try.f3) (codeOf Try.f3) ⟨n', pairs, ()⟩ = law_ColorLeasts_p nf (fun p0 p1 p2 v0 v1 v2 => iter nf (LC.F law_ColorLeasts_tab (law_ColorLeasts_phi nf) (fun _ F => iter nf F) law_ColorLeasts_keep 0 (law_ColorLeasts_L0 nf)) (law_ColorLeasts_m0 p0 p1 p2 v0 v1 v2)) n' pairs := by kernel_rfl
  rw [h]
  simp only [law_ColorLeasts_e0]
  rfl
def law_ColorLeasts_F (nf : Nat) (x : denPs [.val (.int .i64) (.bor false false), .val (.sl (.pair (.int .i64) (.pair (.int .i64) (.unit)))) (.bor false false)]) : Option (denL [(.bool, .bor false true)]) := law_ColorLeasts_f nf x.1 x.2.1
def law_ColorLeasts_C (nf : Nat) : Contract := ⟨[.val (.int .i64) (.bor false false), .val (.sl (.pair (.int .i64) (.pair (.int .i64) (.unit)))) (.bor false false)], [(.bool, .bor false true)], law_ColorLeasts_F nf, []⟩
theorem law_ColorLeasts_ok : FnOK Try.prog 3 := ⟨Try.f3, codeOf Try.f3, Try.func3, by kernel_rfl, by kernel_rfl⟩
theorem law_ColorLeasts_holds (nf : Nat) : Contract.Holds Try.prog 3 (law_ColorLeasts_C nf) :=
  fn_holds (Φ := law_ColorLeasts_phi nf) (keep := law_ColorLeasts_keep) (n := nf) ⟨law_ColorLeasts_tabs.1, law_ColorLeasts_tabs.2, (ctx_cons color_Least_ok (color_Least_holds nf) (ctx_cons ref_ClashCheck_ok (ref_ClashCheck_holds nf) (ctx_cons ref_Colored_ok (ref_Colored_holds nf) (ctx_cons ref_Ints_ok (ref_Ints_holds nf) ctx_nil)))), mixed, bk_ok bkls rfl⟩ (fn := Try.f3) ⟨Try.func3, by kernel_rfl, by kernel_rfl, by kernel_rfl⟩ (fun x => law_ColorLeasts_eq nf x.1 x.2.1)

/-! codemason codemasonref.Bit -/
def ref_Bit_phi (nf : Nat) : Nat → Option Contract := lookC []
def ref_Bit_keep : Nat → List Nat := lookK []
def ref_Bit_p (nf : Nat)  (w : Int) (i : Int) : Option (Bool × Unit) :=
  bif decide (i ≥ 0) then
    bif decide (i < 32) then
      bif decide (0 ≤ IntKind.u64.wrap i) then
        some ((IntKind.u32.wrap (↑(BitVec.ofInt IntKind.u32.bits w &&& BitVec.ofInt IntKind.u32.bits (shlI IntKind.u32 1 (IntKind.u64.wrap i))).toNat : Int) != 0, ()))
      else
        none
    else
      some ((false, ()))
  else
    some ((false, ()))
def ref_Bit_f (nf : Nat) (w : Int) (i : Int) : Option (Bool × Unit) := ref_Bit_p nf  w i
theorem ref_Bit_eq (nf : Nat) (w : Int) (i : Int) : runF tab (ref_Bit_phi nf) ref_Bit_keep nf [PT.val (Ty.int IntKind.u32) (Md.bor true false), PT.val (Ty.int IntKind.i64) (Md.bor true false)] [(Ty.bool, Md.bor false true)] (resL ([]) Try.f37) (codeOf Try.f37) ⟨w, i, ()⟩ = ref_Bit_f nf w i := by
  have h : runF tab (ref_Bit_phi nf) ref_Bit_keep nf [PT.val (Ty.int IntKind.u32) (Md.bor true false), PT.val (Ty.int IntKind.i64) (Md.bor true false)] [(Ty.bool, Md.bor false true)] (resL ([]) Try.f37) (codeOf Try.f37) ⟨w, i, ()⟩ = ref_Bit_p nf  w i := by kernel_rfl
  exact h
def ref_Bit_F (nf : Nat) (x : denPs [.val (.int .u32) (.bor true false), .val (.int .i64) (.bor true false)]) : Option (denL [(.bool, .bor false true)]) := ref_Bit_f nf x.1 x.2.1
def ref_Bit_C (nf : Nat) : Contract := ⟨[.val (.int .u32) (.bor true false), .val (.int .i64) (.bor true false)], [(.bool, .bor false true)], ref_Bit_F nf, []⟩
theorem ref_Bit_ok : FnOK Try.prog 37 := ⟨Try.f37, codeOf Try.f37, Try.func37, by kernel_rfl, by kernel_rfl⟩
theorem ref_Bit_holds (nf : Nat) : Contract.Holds Try.prog 37 (ref_Bit_C nf) :=
  fn_holds (Φ := ref_Bit_phi nf) (keep := ref_Bit_keep) (n := nf) ⟨tabs.1, tabs.2, ctx_nil, mixed, bk_ok bkls rfl⟩ (fn := Try.f37) ⟨Try.func37, by kernel_rfl, by kernel_rfl, by kernel_rfl⟩ (fun x => ref_Bit_eq nf x.1 x.2.1)

/-! math bits.OnesCount32 -/
def bits_OnesCount32_phi (nf : Nat) : Nat → Option Contract := lookC []
def bits_OnesCount32_keep : Nat → List Nat := lookK []
def bits_OnesCount32_p (nf : Nat)  (x : Int) : Option (Int × Unit) :=
  bif inb (shrI IntKind.u32 x 24) [0, 1, 1, 2, 1, 2, 2, 3, 1, 2, 2, 3, 2, 3, 3, 4, 1, 2, 2, 3, 2, 3, 3, 4, 2, 3, 3, 4, 3, 4, 4, 5, 1, 2, 2, 3, 2, 3, 3, 4, 2, 3, 3, 4, 3, 4, 4, 5, 2, 3, 3, 4, 3, 4, 4, 5, 3, 4, 4, 5, 4, 5, 5, 6, 1, 2, 2, 3, 2, 3, 3, 4, 2, 3, 3, 4, 3, 4, 4, 5, 2, 3, 3, 4, 3, 4, 4, 5, 3, 4, 4, 5, 4, 5, 5, 6, 2, 3, 3, 4, 3, 4, 4, 5, 3, 4, 4, 5, 4, 5, 5, 6, 3, 4, 4, 5, 4, 5, 5, 6, 4, 5, 5, 6, 5, 6, 6, 7, 1, 2, 2, 3, 2, 3, 3, 4, 2, 3, 3, 4, 3, 4, 4, 5, 2, 3, 3, 4, 3, 4, 4, 5, 3, 4, 4, 5, 4, 5, 5, 6, 2, 3, 3, 4, 3, 4, 4, 5, 3, 4, 4, 5, 4, 5, 5, 6, 3, 4, 4, 5, 4, 5, 5, 6, 4, 5, 5, 6, 5, 6, 6, 7, 2, 3, 3, 4, 3, 4, 4, 5, 3, 4, 4, 5, 4, 5, 5, 6, 3, 4, 4, 5, 4, 5, 5, 6, 4, 5, 5, 6, 5, 6, 6, 7, 3, 4, 4, 5, 4, 5, 5, 6, 4, 5, 5, 6, 5, 6, 6, 7, 4, 5, 5, 6, 5, 6, 6, 7, 5, 6, 6, 7, 6, 7, 7, 8].length then
    bif inb (IntKind.u32.wrap (↑(BitVec.ofInt IntKind.u32.bits (shrI IntKind.u32 x 16) &&& BitVec.ofInt IntKind.u32.bits 255).toNat : Int)) [0, 1, 1, 2, 1, 2, 2, 3, 1, 2, 2, 3, 2, 3, 3, 4, 1, 2, 2, 3, 2, 3, 3, 4, 2, 3, 3, 4, 3, 4, 4, 5, 1, 2, 2, 3, 2, 3, 3, 4, 2, 3, 3, 4, 3, 4, 4, 5, 2, 3, 3, 4, 3, 4, 4, 5, 3, 4, 4, 5, 4, 5, 5, 6, 1, 2, 2, 3, 2, 3, 3, 4, 2, 3, 3, 4, 3, 4, 4, 5, 2, 3, 3, 4, 3, 4, 4, 5, 3, 4, 4, 5, 4, 5, 5, 6, 2, 3, 3, 4, 3, 4, 4, 5, 3, 4, 4, 5, 4, 5, 5, 6, 3, 4, 4, 5, 4, 5, 5, 6, 4, 5, 5, 6, 5, 6, 6, 7, 1, 2, 2, 3, 2, 3, 3, 4, 2, 3, 3, 4, 3, 4, 4, 5, 2, 3, 3, 4, 3, 4, 4, 5, 3, 4, 4, 5, 4, 5, 5, 6, 2, 3, 3, 4, 3, 4, 4, 5, 3, 4, 4, 5, 4, 5, 5, 6, 3, 4, 4, 5, 4, 5, 5, 6, 4, 5, 5, 6, 5, 6, 6, 7, 2, 3, 3, 4, 3, 4, 4, 5, 3, 4, 4, 5, 4, 5, 5, 6, 3, 4, 4, 5, 4, 5, 5, 6, 4, 5, 5, 6, 5, 6, 6, 7, 3, 4, 4, 5, 4, 5, 5, 6, 4, 5, 5, 6, 5, 6, 6, 7, 4, 5, 5, 6, 5, 6, 6, 7, 5, 6, 6, 7, 6, 7, 7, 8].length then
      bif inb (IntKind.u32.wrap (↑(BitVec.ofInt IntKind.u32.bits (shrI IntKind.u32 x 8) &&& BitVec.ofInt IntKind.u32.bits 255).toNat : Int)) [0, 1, 1, 2, 1, 2, 2, 3, 1, 2, 2, 3, 2, 3, 3, 4, 1, 2, 2, 3, 2, 3, 3, 4, 2, 3, 3, 4, 3, 4, 4, 5, 1, 2, 2, 3, 2, 3, 3, 4, 2, 3, 3, 4, 3, 4, 4, 5, 2, 3, 3, 4, 3, 4, 4, 5, 3, 4, 4, 5, 4, 5, 5, 6, 1, 2, 2, 3, 2, 3, 3, 4, 2, 3, 3, 4, 3, 4, 4, 5, 2, 3, 3, 4, 3, 4, 4, 5, 3, 4, 4, 5, 4, 5, 5, 6, 2, 3, 3, 4, 3, 4, 4, 5, 3, 4, 4, 5, 4, 5, 5, 6, 3, 4, 4, 5, 4, 5, 5, 6, 4, 5, 5, 6, 5, 6, 6, 7, 1, 2, 2, 3, 2, 3, 3, 4, 2, 3, 3, 4, 3, 4, 4, 5, 2, 3, 3, 4, 3, 4, 4, 5, 3, 4, 4, 5, 4, 5, 5, 6, 2, 3, 3, 4, 3, 4, 4, 5, 3, 4, 4, 5, 4, 5, 5, 6, 3, 4, 4, 5, 4, 5, 5, 6, 4, 5, 5, 6, 5, 6, 6, 7, 2, 3, 3, 4, 3, 4, 4, 5, 3, 4, 4, 5, 4, 5, 5, 6, 3, 4, 4, 5, 4, 5, 5, 6, 4, 5, 5, 6, 5, 6, 6, 7, 3, 4, 4, 5, 4, 5, 5, 6, 4, 5, 5, 6, 5, 6, 6, 7, 4, 5, 5, 6, 5, 6, 6, 7, 5, 6, 6, 7, 6, 7, 7, 8].length then
        bif inb (IntKind.u32.wrap (↑(BitVec.ofInt IntKind.u32.bits x &&& BitVec.ofInt IntKind.u32.bits 255).toNat : Int)) [0, 1, 1, 2, 1, 2, 2, 3, 1, 2, 2, 3, 2, 3, 3, 4, 1, 2, 2, 3, 2, 3, 3, 4, 2, 3, 3, 4, 3, 4, 4, 5, 1, 2, 2, 3, 2, 3, 3, 4, 2, 3, 3, 4, 3, 4, 4, 5, 2, 3, 3, 4, 3, 4, 4, 5, 3, 4, 4, 5, 4, 5, 5, 6, 1, 2, 2, 3, 2, 3, 3, 4, 2, 3, 3, 4, 3, 4, 4, 5, 2, 3, 3, 4, 3, 4, 4, 5, 3, 4, 4, 5, 4, 5, 5, 6, 2, 3, 3, 4, 3, 4, 4, 5, 3, 4, 4, 5, 4, 5, 5, 6, 3, 4, 4, 5, 4, 5, 5, 6, 4, 5, 5, 6, 5, 6, 6, 7, 1, 2, 2, 3, 2, 3, 3, 4, 2, 3, 3, 4, 3, 4, 4, 5, 2, 3, 3, 4, 3, 4, 4, 5, 3, 4, 4, 5, 4, 5, 5, 6, 2, 3, 3, 4, 3, 4, 4, 5, 3, 4, 4, 5, 4, 5, 5, 6, 3, 4, 4, 5, 4, 5, 5, 6, 4, 5, 5, 6, 5, 6, 6, 7, 2, 3, 3, 4, 3, 4, 4, 5, 3, 4, 4, 5, 4, 5, 5, 6, 3, 4, 4, 5, 4, 5, 5, 6, 4, 5, 5, 6, 5, 6, 6, 7, 3, 4, 4, 5, 4, 5, 5, 6, 4, 5, 5, 6, 5, 6, 6, 7, 4, 5, 5, 6, 5, 6, 6, 7, 5, 6, 6, 7, 6, 7, 7, 8].length then
          some ((IntKind.i64.wrap (IntKind.u8.wrap (IntKind.u8.wrap (IntKind.u8.wrap ([0, 1, 1, 2, 1, 2, 2, 3, 1, 2, 2, 3, 2, 3, 3, 4, 1, 2, 2, 3, 2, 3, 3, 4, 2, 3, 3, 4, 3, 4, 4, 5, 1, 2, 2, 3, 2, 3, 3, 4, 2, 3, 3, 4, 3, 4, 4, 5, 2, 3, 3, 4, 3, 4, 4, 5, 3, 4, 4, 5, 4, 5, 5, 6, 1, 2, 2, 3, 2, 3, 3, 4, 2, 3, 3, 4, 3, 4, 4, 5, 2, 3, 3, 4, 3, 4, 4, 5, 3, 4, 4, 5, 4, 5, 5, 6, 2, 3, 3, 4, 3, 4, 4, 5, 3, 4, 4, 5, 4, 5, 5, 6, 3, 4, 4, 5, 4, 5, 5, 6, 4, 5, 5, 6, 5, 6, 6, 7, 1, 2, 2, 3, 2, 3, 3, 4, 2, 3, 3, 4, 3, 4, 4, 5, 2, 3, 3, 4, 3, 4, 4, 5, 3, 4, 4, 5, 4, 5, 5, 6, 2, 3, 3, 4, 3, 4, 4, 5, 3, 4, 4, 5, 4, 5, 5, 6, 3, 4, 4, 5, 4, 5, 5, 6, 4, 5, 5, 6, 5, 6, 6, 7, 2, 3, 3, 4, 3, 4, 4, 5, 3, 4, 4, 5, 4, 5, 5, 6, 3, 4, 4, 5, 4, 5, 5, 6, 4, 5, 5, 6, 5, 6, 6, 7, 3, 4, 4, 5, 4, 5, 5, 6, 4, 5, 5, 6, 5, 6, 6, 7, 4, 5, 5, 6, 5, 6, 6, 7, 5, 6, 6, 7, 6, 7, 7, 8].getD (shrI IntKind.u32 x 24).toNat 0 + [0, 1, 1, 2, 1, 2, 2, 3, 1, 2, 2, 3, 2, 3, 3, 4, 1, 2, 2, 3, 2, 3, 3, 4, 2, 3, 3, 4, 3, 4, 4, 5, 1, 2, 2, 3, 2, 3, 3, 4, 2, 3, 3, 4, 3, 4, 4, 5, 2, 3, 3, 4, 3, 4, 4, 5, 3, 4, 4, 5, 4, 5, 5, 6, 1, 2, 2, 3, 2, 3, 3, 4, 2, 3, 3, 4, 3, 4, 4, 5, 2, 3, 3, 4, 3, 4, 4, 5, 3, 4, 4, 5, 4, 5, 5, 6, 2, 3, 3, 4, 3, 4, 4, 5, 3, 4, 4, 5, 4, 5, 5, 6, 3, 4, 4, 5, 4, 5, 5, 6, 4, 5, 5, 6, 5, 6, 6, 7, 1, 2, 2, 3, 2, 3, 3, 4, 2, 3, 3, 4, 3, 4, 4, 5, 2, 3, 3, 4, 3, 4, 4, 5, 3, 4, 4, 5, 4, 5, 5, 6, 2, 3, 3, 4, 3, 4, 4, 5, 3, 4, 4, 5, 4, 5, 5, 6, 3, 4, 4, 5, 4, 5, 5, 6, 4, 5, 5, 6, 5, 6, 6, 7, 2, 3, 3, 4, 3, 4, 4, 5, 3, 4, 4, 5, 4, 5, 5, 6, 3, 4, 4, 5, 4, 5, 5, 6, 4, 5, 5, 6, 5, 6, 6, 7, 3, 4, 4, 5, 4, 5, 5, 6, 4, 5, 5, 6, 5, 6, 6, 7, 4, 5, 5, 6, 5, 6, 6, 7, 5, 6, 6, 7, 6, 7, 7, 8].getD (IntKind.u32.wrap (↑(BitVec.ofInt IntKind.u32.bits (shrI IntKind.u32 x 16) &&& BitVec.ofInt IntKind.u32.bits 255).toNat : Int)).toNat 0) + [0, 1, 1, 2, 1, 2, 2, 3, 1, 2, 2, 3, 2, 3, 3, 4, 1, 2, 2, 3, 2, 3, 3, 4, 2, 3, 3, 4, 3, 4, 4, 5, 1, 2, 2, 3, 2, 3, 3, 4, 2, 3, 3, 4, 3, 4, 4, 5, 2, 3, 3, 4, 3, 4, 4, 5, 3, 4, 4, 5, 4, 5, 5, 6, 1, 2, 2, 3, 2, 3, 3, 4, 2, 3, 3, 4, 3, 4, 4, 5, 2, 3, 3, 4, 3, 4, 4, 5, 3, 4, 4, 5, 4, 5, 5, 6, 2, 3, 3, 4, 3, 4, 4, 5, 3, 4, 4, 5, 4, 5, 5, 6, 3, 4, 4, 5, 4, 5, 5, 6, 4, 5, 5, 6, 5, 6, 6, 7, 1, 2, 2, 3, 2, 3, 3, 4, 2, 3, 3, 4, 3, 4, 4, 5, 2, 3, 3, 4, 3, 4, 4, 5, 3, 4, 4, 5, 4, 5, 5, 6, 2, 3, 3, 4, 3, 4, 4, 5, 3, 4, 4, 5, 4, 5, 5, 6, 3, 4, 4, 5, 4, 5, 5, 6, 4, 5, 5, 6, 5, 6, 6, 7, 2, 3, 3, 4, 3, 4, 4, 5, 3, 4, 4, 5, 4, 5, 5, 6, 3, 4, 4, 5, 4, 5, 5, 6, 4, 5, 5, 6, 5, 6, 6, 7, 3, 4, 4, 5, 4, 5, 5, 6, 4, 5, 5, 6, 5, 6, 6, 7, 4, 5, 5, 6, 5, 6, 6, 7, 5, 6, 6, 7, 6, 7, 7, 8].getD (IntKind.u32.wrap (↑(BitVec.ofInt IntKind.u32.bits (shrI IntKind.u32 x 8) &&& BitVec.ofInt IntKind.u32.bits 255).toNat : Int)).toNat 0) + [0, 1, 1, 2, 1, 2, 2, 3, 1, 2, 2, 3, 2, 3, 3, 4, 1, 2, 2, 3, 2, 3, 3, 4, 2, 3, 3, 4, 3, 4, 4, 5, 1, 2, 2, 3, 2, 3, 3, 4, 2, 3, 3, 4, 3, 4, 4, 5, 2, 3, 3, 4, 3, 4, 4, 5, 3, 4, 4, 5, 4, 5, 5, 6, 1, 2, 2, 3, 2, 3, 3, 4, 2, 3, 3, 4, 3, 4, 4, 5, 2, 3, 3, 4, 3, 4, 4, 5, 3, 4, 4, 5, 4, 5, 5, 6, 2, 3, 3, 4, 3, 4, 4, 5, 3, 4, 4, 5, 4, 5, 5, 6, 3, 4, 4, 5, 4, 5, 5, 6, 4, 5, 5, 6, 5, 6, 6, 7, 1, 2, 2, 3, 2, 3, 3, 4, 2, 3, 3, 4, 3, 4, 4, 5, 2, 3, 3, 4, 3, 4, 4, 5, 3, 4, 4, 5, 4, 5, 5, 6, 2, 3, 3, 4, 3, 4, 4, 5, 3, 4, 4, 5, 4, 5, 5, 6, 3, 4, 4, 5, 4, 5, 5, 6, 4, 5, 5, 6, 5, 6, 6, 7, 2, 3, 3, 4, 3, 4, 4, 5, 3, 4, 4, 5, 4, 5, 5, 6, 3, 4, 4, 5, 4, 5, 5, 6, 4, 5, 5, 6, 5, 6, 6, 7, 3, 4, 4, 5, 4, 5, 5, 6, 4, 5, 5, 6, 5, 6, 6, 7, 4, 5, 5, 6, 5, 6, 6, 7, 5, 6, 6, 7, 6, 7, 7, 8].getD (IntKind.u32.wrap (↑(BitVec.ofInt IntKind.u32.bits x &&& BitVec.ofInt IntKind.u32.bits 255).toNat : Int)).toNat 0)), ()))
        else
          none
      else
        none
    else
      none
  else
    none
def bits_OnesCount32_f (nf : Nat) (x : Int) : Option (Int × Unit) := bits_OnesCount32_p nf  x
theorem bits_OnesCount32_eq (nf : Nat) (x : Int) : runF tab (bits_OnesCount32_phi nf) bits_OnesCount32_keep nf [PT.val (Ty.int IntKind.u32) (Md.bor true false)] [(Ty.int IntKind.i64, Md.bor false true)] (resL ([]) Try.f34) (codeOf Try.f34) ⟨x, ()⟩ = bits_OnesCount32_f nf x := by
  have h : runF tab (bits_OnesCount32_phi nf) bits_OnesCount32_keep nf [PT.val (Ty.int IntKind.u32) (Md.bor true false)] [(Ty.int IntKind.i64, Md.bor false true)] (resL ([]) Try.f34) (codeOf Try.f34) ⟨x, ()⟩ = bits_OnesCount32_p nf  x := by kernel_rfl
  exact h
def bits_OnesCount32_F (nf : Nat) (x : denPs [.val (.int .u32) (.bor true false)]) : Option (denL [(.int .i64, .bor false true)]) := bits_OnesCount32_f nf x.1
def bits_OnesCount32_C (nf : Nat) : Contract := ⟨[.val (.int .u32) (.bor true false)], [(.int .i64, .bor false true)], bits_OnesCount32_F nf, []⟩
theorem bits_OnesCount32_ok : FnOK Try.prog 34 := ⟨Try.f34, codeOf Try.f34, Try.func34, by kernel_rfl, by kernel_rfl⟩
theorem bits_OnesCount32_holds (nf : Nat) : Contract.Holds Try.prog 34 (bits_OnesCount32_C nf) :=
  fn_holds (Φ := bits_OnesCount32_phi nf) (keep := bits_OnesCount32_keep) (n := nf) ⟨tabs.1, tabs.2, ctx_nil, mixed, bk_ok bkls rfl⟩ (fn := Try.f34) ⟨Try.func34, by kernel_rfl, by kernel_rfl, by kernel_rfl⟩ (fun x => bits_OnesCount32_eq nf x.1)
end
end Go.Proofs.Ytkcnmbcefbeldaa.S
