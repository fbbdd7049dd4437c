/- The functions of the code, as plain functions, and the theorems that say so: made by a program of this proof's own. -/
import Derived.Test.YtmndifhjmbiodaaAbCheck
import Derived.Test.YtmndifhjmbiodaaChecked
namespace Go.Proofs.Ytmndifhjmbiodaa.S
open Go Go.Ab
noncomputable section
def bkl : List (Nat × Bk) := []
def tab : Tab := ⟨lookT [(2, .int .i64), (3, .int .i64), (4, .bool), (5, .int .u8), (6, .int .u8), (7, .pair (.int .i64) (.pair (.int .i64) (.pair (.bool) (.pair (.int .u8) (.unit))))), (8, .pair (.int .i64) (.pair (.int .i64) (.pair (.bool) (.pair (.int .u8) (.unit))))), (12, .int .u64), (21, .int .i32), (22, .sl (.int .i64)), (23, .int .i64), (29, .sl (.pair (.sl (.int .u8)) (.pair (.sl (.pair (.int .i64) (.pair (.int .i64) (.unit)))) (.pair (.sl (.pair (.int .i64) (.pair (.int .i64) (.unit)))) (.unit))))), (34, .int .u32), (39, .sl (.int .u8)), (45, .sl (.pair (.int .i64) (.pair (.int .i64) (.unit)))), (50, .pair (.int .i64) (.pair (.int .i64) (.unit))), (51, .pair (.int .i64) (.pair (.int .i64) (.unit))), (56, .sl (.pair (.int .i64) (.pair (.int .i64) (.pair (.int .i64) (.unit))))), (57, .sl (.int .u32)), (66, .mp (.int .u32) (.int .i64)), (67, .int .u64), (75, .mp (.int .i64) (.int .i64)), (76, .pair (.sl (.int .i64)) (.pair (.mp (.int .i64) (.int .i64)) (.pair (.mp (.int .i64) (.int .i64)) (.unit)))), (77, .pair (.sl (.int .i64)) (.pair (.mp (.int .i64) (.int .i64)) (.pair (.mp (.int .i64) (.int .i64)) (.unit)))), (78, .sl (.pair (.int .i64) (.pair (.int .i64) (.unit)))), (79, .pair (.sl (.int .u8)) (.pair (.sl (.pair (.int .i64) (.pair (.int .i64) (.unit)))) (.pair (.sl (.pair (.int .i64) (.pair (.int .i64) (.unit)))) (.unit)))), (80, .pair (.sl (.int .u8)) (.pair (.sl (.pair (.int .i64) (.pair (.int .i64) (.unit)))) (.pair (.sl (.pair (.int .i64) (.pair (.int .i64) (.unit)))) (.unit)))), (81, .pair (.int .i64) (.pair (.int .i64) (.unit))), (82, .sl (.sl (.int .i64))), (89, .pair (.sl (.int .i64)) (.pair (.sl (.int .i64)) (.unit))), (90, .pair (.sl (.int .i64)) (.pair (.sl (.int .i64)) (.unit))), (92, .pair (.int .i64) (.pair (.int .i64) (.pair (.int .i64) (.unit)))), (93, .pair (.int .i64) (.pair (.int .i64) (.pair (.int .i64) (.unit)))), (94, .mp (.pair (.int .i64) (.pair (.int .i64) (.unit))) (.bool)), (98, .pair (.sl (.int .i64)) (.pair (.sl (.int .i64)) (.unit))), (99, .pair (.sl (.int .i64)) (.pair (.sl (.int .i64)) (.unit))), (106, .sl (.bool)), (114, .int .u64), (124, .int .u8), (125, .int .u8), (128, .int .i32), (129, .int .i32)], lookM [(2, .bor false true), (3, .bor false true), (4, .bor false true), (5, .bor false true), (6, .bor false true), (7, .bor false true), (8, .bor false true), (12, .bor false true), (21, .bor false true), (22, .own false (.bor false false)), (23, .bor false true), (29, .own false (.bor false false)), (34, .bor false true), (39, .own false (.bor false false)), (45, .own false (.bor false false)), (50, .bor false true), (51, .bor false true), (56, .own false (.bor false false)), (57, .own false (.bor false false)), (66, .own false (.bor false false)), (67, .bor false true), (75, .own false (.bor false false)), (76, .bor true false), (77, .pair (.own false (.bor false false)) (.pair (.own true (.bor false false)) (.pair (.own true (.bor false false)) (.bor false false)))), (78, .own false (.bor false false)), (79, .bor true false), (80, .bor true false), (81, .bor false true), (82, .own false (.bor false false)), (89, .bor true false), (90, .pair (.own false (.bor false false)) (.pair (.own false (.bor false false)) (.bor false false))), (92, .bor false true), (93, .bor false true), (94, .own false (.bor false false)), (98, .bor true false), (99, .pair (.own false (.bor false false)) (.pair (.own false (.bor false false)) (.bor false false))), (106, .own false (.bor false false)), (114, .bor false true), (124, .bor false true), (125, .bor false true), (128, .bor false true), (129, .bor false true)], hasT [81, 120], hasT [9, 10, 11], fun _ => none, lookB bkl⟩
theorem bkls : BkL Try.prog bkl := fun _ h => by cases h
theorem tabs : TabOK Try.prog tab ∧ EqOK Try.prog tab := tab_ok (by kernel_rfl) (by kernel_rfl)
theorem mixed : Try.prog.follows .mixedOrders = true := by kernel_rfl

/-! codemason swap.build -/
def swap_build_phi (nf : Nat) : Nat → Option Contract := lookC []
def swap_build_keep : Nat → List Nat := lookK [(6, [6, 30, 31, 97, 98, 99, 100, 101, 102]), (4, [1, 6, 9, 30, 31, 55, 72, 73, 74]), (2, [1, 6, 9, 30, 31, 55, 60, 61]), (0, [0, 1, 6, 30, 31, 32, 33, 34])]
def swap_build_b0 (nf : Nat) (l2 : List (Int × Int × Unit) → List Int × List Int × Unit → List Bool → List Int × List Int × Unit → Int → Option (Option (List Int × List Int × Unit) × Int × Unit)) (regs : Int) (l' : List (Int × Int × Unit)) (g0 : List Int × List Int × Unit → Int → Option (Option (List Int × List Int × Unit) × Int × Unit)) (t31 : List Int × List Int × Unit) (t34 : Int) : Option (Option (List Int × List Int × Unit) × Int × Unit) :=
  bif decide (t34 < (↑l'.length : Int)) then
    bif inb t34 l'.length then
      bif decide ((if (l'.getD t34.toNat (0, 0, ())).snd.fst < (l'.getD t34.toNat (0, 0, ())).fst then (l'.getD t34.toNat (0, 0, ())).snd.fst else (l'.getD t34.toNat (0, 0, ())).fst) < 0) then
        some ((none, 2, ()))
      else
        bif decide ((if (l'.getD t34.toNat (0, 0, ())).snd.fst > (l'.getD t34.toNat (0, 0, ())).fst then (l'.getD t34.toNat (0, 0, ())).snd.fst else (l'.getD t34.toNat (0, 0, ())).fst) ≥ regs) then
          some ((none, 2, ()))
        else
          g0 t31 (IntKind.i64.wrap (t34 + 1))
    else
      none
  else
    bif decide (0 ≤ regs) && decide (regs ≤ regs) && decide (regs ≤ (↑lim : Int)) then
      l2 l' t31 (List.replicate regs.toNat false) t31 0
    else
      none
def swap_build_b2 (nf : Nat) (l4 : List (Int × Int × Unit) → List Bool → List Int × List Int × Unit → Int → Option (Option (List Int × List Int × Unit) × Int × Unit)) (l' : List (Int × Int × Unit)) (t31 : List Int × List Int × Unit) (g2 : List Bool → List Int × List Int × Unit → Int → Option (Option (List Int × List Int × Unit) × Int × Unit)) (given : List Bool) (t312 : List Int × List Int × Unit) (t61 : Int) : Option (Option (List Int × List Int × Unit) × Int × Unit) :=
  bif decide (t61 < (↑(List.length t31.fst) : Int)) then
    bif inb t61 (List.length t312.fst) then
      g2 given ((List.set t312.fst t61.toNat t61, t312.snd)) (IntKind.i64.wrap (t61 + 1))
    else
      none
  else
    l4 l' given t312 0
def swap_build_b4 (nf : Nat) (l6 : List Int × List Int × Unit → List Int × List Int × Unit → Int → Option (Option (List Int × List Int × Unit) × Int × Unit)) (l' : List (Int × Int × Unit)) (g4 : List Bool → List Int × List Int × Unit → Int → Option (Option (List Int × List Int × Unit) × Int × Unit)) (given2 : List Bool) (t313 : List Int × List Int × Unit) (t74 : Int) : Option (Option (List Int × List Int × Unit) × Int × Unit) :=
  bif decide (t74 < (↑l'.length : Int)) then
    bif inb t74 l'.length then
      bif inb (l'.getD t74.toNat (0, 0, ())).fst given2.length then
        bif given2.getD (Int.toNat (l'.getD t74.toNat (0, 0, ())).fst) false then
          some ((none, 3, ()))
        else
          bif inb (l'.getD t74.toNat (0, 0, ())).fst given2.length then
            bif inb (l'.getD t74.toNat (0, 0, ())).fst (List.length t313.fst) then
              g4 (given2.set (Int.toNat (l'.getD t74.toNat (0, 0, ())).fst) true) ((List.set t313.fst (Int.toNat (l'.getD t74.toNat (0, 0, ())).fst) (l'.getD t74.toNat (0, 0, ())).snd.fst, t313.snd)) (IntKind.i64.wrap (t74 + 1))
            else
              none
          else
            none
      else
        none
    else
      none
  else
    l6 t313 t313 0
def swap_build_b6 (nf : Nat) (t313 : List Int × List Int × Unit) (g6 : List Int × List Int × Unit → Int → Option (Option (List Int × List Int × Unit) × Int × Unit)) (t314 : List Int × List Int × Unit) (t102 : Int) : Option (Option (List Int × List Int × Unit) × Int × Unit) :=
  bif decide (t102 < (↑(List.length t313.fst) : Int)) then
    bif inb t102 (List.length t314.fst) then
      bif List.getD t314.fst t102.toNat 0 != t102 then
        bif inb (List.getD t314.fst t102.toNat 0) (List.length t314.snd.fst) then
          bif inb (List.getD t314.fst t102.toNat 0) (List.length t314.snd.fst) then
            g6 ((t314.fst, List.set t314.snd.fst (Int.toNat (List.getD t314.fst t102.toNat 0)) (IntKind.i64.wrap (List.getD t314.snd.fst (Int.toNat (List.getD t314.fst t102.toNat 0)) 0 + 1)), t314.snd.snd)) (IntKind.i64.wrap (t102 + 1))
          else
            none
        else
          none
      else
        g6 t314 (IntKind.i64.wrap (t102 + 1))
    else
      none
  else
    some ((some t314, 0, ()))
def swap_build_p (nf : Nat) (l0 : Int → List (Int × Int × Unit) → List Int × List Int × Unit → Int → Option (Option (List Int × List Int × Unit) × Int × Unit)) (regs : Int) (l' : List (Int × Int × Unit)) : Option (Option (List Int × List Int × Unit) × Int × Unit) :=
  bif decide (regs < 1) then
    some ((none, 1, ()))
  else
    bif decide (regs > 8) then
      some ((none, 1, ()))
    else
      bif decide ((↑l'.length : Int) > 8) then
        some ((none, 1, ()))
      else
        both (bif decide (0 ≤ regs) && decide (regs ≤ regs) && decide (regs ≤ (↑lim : Int)) then
          bif decide (0 ≤ regs) && decide (regs ≤ regs) && decide (regs ≤ (↑lim : Int)) then
            l0 regs l' ((List.replicate regs.toNat 0, List.replicate regs.toNat 0, ())) 0
          else
            none
        else
          none) (bif decide (0 ≤ regs) && decide (regs ≤ regs) && decide (regs ≤ (↑lim : Int)) then
          bif decide (0 ≤ regs) && decide (regs ≤ regs) && decide (regs ≤ (↑lim : Int)) then
            l0 regs l' ((List.replicate regs.toNat 0, List.replicate regs.toNat 0, ())) 0
          else
            none
        else
          none)
def swap_build_l6 (nf : Nat) (t313 : List Int × List Int × Unit) : Nat → List Int × List Int × Unit → Int → Option (Option (List Int × List Int × Unit) × Int × Unit)
  | 0, _, _ => none
  | fu + 1, t314, t102 => swap_build_b6 nf  t313  (swap_build_l6 nf t313  fu) t314 t102
def swap_build_l4 (nf : Nat) (l' : List (Int × Int × Unit)) : Nat → List Bool → List Int × List Int × Unit → Int → Option (Option (List Int × List Int × Unit) × Int × Unit)
  | 0, _, _, _ => none
  | fu + 1, given2, t313, t74 => swap_build_b4 nf (fun p0 v0 v1 => swap_build_l6 nf p0  nf v0 v1) l'  (swap_build_l4 nf l'  fu) given2 t313 t74
def swap_build_l2 (nf : Nat) (l' : List (Int × Int × Unit)) (t31 : List Int × List Int × Unit) : Nat → List Bool → List Int × List Int × Unit → Int → Option (Option (List Int × List Int × Unit) × Int × Unit)
  | 0, _, _, _ => none
  | fu + 1, given, t312, t61 => swap_build_b2 nf (fun _ v0 v1 v2 => swap_build_l4 nf l'  nf v0 v1 v2) l' t31  (swap_build_l2 nf l' t31  fu) given t312 t61
def swap_build_l0 (nf : Nat) (regs : Int) (l' : List (Int × Int × Unit)) : Nat → List Int × List Int × Unit → Int → Option (Option (List Int × List Int × Unit) × Int × Unit)
  | 0, _, _ => none
  | fu + 1, t31, t34 => swap_build_b0 nf (fun _ p1 v0 v1 v2 => swap_build_l2 nf l' p1  nf v0 v1 v2) regs l'  (swap_build_l0 nf regs l'  fu) t31 t34
def swap_build_f (nf : Nat) (regs : Int) (l' : List (Int × Int × Unit)) : Option (Option (List Int × List Int × Unit) × Int × Unit) := swap_build_p nf (fun p0 p1 v0 v1 => swap_build_l0 nf p0 p1 nf v0 v1) regs l'
noncomputable def swap_build_L0 (nf : Nat) : LC (Option (List Int × List Int × Unit) × Int × Unit) := theL (findL tab (swap_build_phi nf) (fun _ F => iter nf F) swap_build_keep 0 0 (codeOf Try.f44) (fin tab [(((Ty.int IntKind.i64).sl.pair ((Ty.int IntKind.i64).sl.pair Ty.unit)).bx, Md.own false ((Md.own false (Md.bor false false)).pair ((Md.own false (Md.bor false false)).pair (Md.bor false false)))), (Ty.int IntKind.i64, Md.bor false true)] (resL ([]) Try.f44)) (fun _ _ => none) (fin tab [(((Ty.int IntKind.i64).sl.pair ((Ty.int IntKind.i64).sl.pair Ty.unit)).bx, Md.own false ((Md.own false (Md.bor false false)).pair ((Md.own false (Md.bor false false)).pair (Md.bor false false)))), (Ty.int IntKind.i64, Md.bor false true)] (resL ([]) Try.f44)))
def swap_build_m0 (regs : Int) (l' : List (Int × Int × Unit)) (t31 : List Int × List Int × Unit) (t34 : Int) : St := ⟨fresh, [(0, AV.v (Ty.int IntKind.i64) (Md.bor false true) regs), (1, AV.v ((Ty.int IntKind.i64).pair ((Ty.int IntKind.i64).pair Ty.unit)).sl (Md.bor true false) l'), (6, AV.pl 31 31 [Stp.dr]), (30, AV.dead), (31, AV.box 31 500031 ((Ty.int IntKind.i64).sl.pair ((Ty.int IntKind.i64).sl.pair Ty.unit)) ((Md.own false (Md.bor false false)).pair ((Md.own false (Md.bor false false)).pair (Md.bor false false))) t31), (32, AV.v ((Ty.int IntKind.i64).pair ((Ty.int IntKind.i64).pair Ty.unit)).sl (Md.bor true false) l'), (33, AV.v (Ty.int IntKind.i64) (Md.bor false true) (↑l'.length : Int)), (34, AV.v (Ty.int IntKind.i64) (Md.bor false true) t34)]⟩
noncomputable def swap_build_L2 (nf : Nat) : LC (Option (List Int × List Int × Unit) × Int × Unit) := theL (findL tab (swap_build_phi nf) (fun _ F => iter nf F) swap_build_keep 2 0 (codeOf Try.f44) (fin tab [(((Ty.int IntKind.i64).sl.pair ((Ty.int IntKind.i64).sl.pair Ty.unit)).bx, Md.own false ((Md.own false (Md.bor false false)).pair ((Md.own false (Md.bor false false)).pair (Md.bor false false)))), (Ty.int IntKind.i64, Md.bor false true)] (resL ([]) Try.f44)) (fun _ _ => none) (fin tab [(((Ty.int IntKind.i64).sl.pair ((Ty.int IntKind.i64).sl.pair Ty.unit)).bx, Md.own false ((Md.own false (Md.bor false false)).pair ((Md.own false (Md.bor false false)).pair (Md.bor false false)))), (Ty.int IntKind.i64, Md.bor false true)] (resL ([]) Try.f44)))
def swap_build_m2 (l' : List (Int × Int × Unit)) (t31 : List Int × List Int × Unit) (given : List Bool) (t312 : List Int × List Int × Unit) (t61 : Int) : St := ⟨fresh, [(1, AV.v ((Ty.int IntKind.i64).pair ((Ty.int IntKind.i64).pair Ty.unit)).sl (Md.bor true false) l'), (6, AV.pl 31 31 [Stp.dr]), (9, AV.ow 500009 Ty.bool.sl (Md.own false (Md.bor false false)) given), (30, AV.dead), (31, AV.box 31 500031 ((Ty.int IntKind.i64).sl.pair ((Ty.int IntKind.i64).sl.pair Ty.unit)) ((Md.own false (Md.bor false false)).pair ((Md.own false (Md.bor false false)).pair (Md.bor false false))) t312), (55, AV.dead), (60, AV.v (Ty.int IntKind.i64) (Md.bor false true) (↑(List.length t31.fst) : Int)), (61, AV.v (Ty.int IntKind.i64) (Md.bor false true) t61)]⟩
noncomputable def swap_build_L4 (nf : Nat) : LC (Option (List Int × List Int × Unit) × Int × Unit) := theL (findL tab (swap_build_phi nf) (fun _ F => iter nf F) swap_build_keep 4 0 (codeOf Try.f44) (fin tab [(((Ty.int IntKind.i64).sl.pair ((Ty.int IntKind.i64).sl.pair Ty.unit)).bx, Md.own false ((Md.own false (Md.bor false false)).pair ((Md.own false (Md.bor false false)).pair (Md.bor false false)))), (Ty.int IntKind.i64, Md.bor false true)] (resL ([]) Try.f44)) (fun _ _ => none) (fin tab [(((Ty.int IntKind.i64).sl.pair ((Ty.int IntKind.i64).sl.pair Ty.unit)).bx, Md.own false ((Md.own false (Md.bor false false)).pair ((Md.own false (Md.bor false false)).pair (Md.bor false false)))), (Ty.int IntKind.i64, Md.bor false true)] (resL ([]) Try.f44)))
def swap_build_m4 (l' : List (Int × Int × Unit)) (given2 : List Bool) (t313 : List Int × List Int × Unit) (t74 : Int) : St := ⟨fresh, [(1, AV.v ((Ty.int IntKind.i64).pair ((Ty.int IntKind.i64).pair Ty.unit)).sl (Md.bor true false) l'), (6, AV.pl 31 31 [Stp.dr]), (9, AV.ow 500009 Ty.bool.sl (Md.own false (Md.bor false false)) given2), (30, AV.dead), (31, AV.box 31 500031 ((Ty.int IntKind.i64).sl.pair ((Ty.int IntKind.i64).sl.pair Ty.unit)) ((Md.own false (Md.bor false false)).pair ((Md.own false (Md.bor false false)).pair (Md.bor false false))) t313), (55, AV.dead), (72, AV.v ((Ty.int IntKind.i64).pair ((Ty.int IntKind.i64).pair Ty.unit)).sl (Md.bor true false) l'), (73, AV.v (Ty.int IntKind.i64) (Md.bor false true) (↑l'.length : Int)), (74, AV.v (Ty.int IntKind.i64) (Md.bor false true) t74)]⟩
noncomputable def swap_build_L6 (nf : Nat) : LC (Option (List Int × List Int × Unit) × Int × Unit) := theL (findL tab (swap_build_phi nf) (fun _ F => iter nf F) swap_build_keep 6 0 (codeOf Try.f44) (fin tab [(((Ty.int IntKind.i64).sl.pair ((Ty.int IntKind.i64).sl.pair Ty.unit)).bx, Md.own false ((Md.own false (Md.bor false false)).pair ((Md.own false (Md.bor false false)).pair (Md.bor false false)))), (Ty.int IntKind.i64, Md.bor false true)] (resL ([]) Try.f44)) (fun _ _ => none) (fin tab [(((Ty.int IntKind.i64).sl.pair ((Ty.int IntKind.i64).sl.pair Ty.unit)).bx, Md.own false ((Md.own false (Md.bor false false)).pair ((Md.own false (Md.bor false false)).pair (Md.bor false false)))), (Ty.int IntKind.i64, Md.bor false true)] (resL ([]) Try.f44)))
def swap_build_m6 (t313 : List Int × List Int × Unit) (t314 : List Int × List Int × Unit) (t102 : Int) : St := ⟨fresh, [(6, AV.pl 31 31 [Stp.dr]), (30, AV.dead), (31, AV.box 31 500031 ((Ty.int IntKind.i64).sl.pair ((Ty.int IntKind.i64).sl.pair Ty.unit)) ((Md.own false (Md.bor false false)).pair ((Md.own false (Md.bor false false)).pair (Md.bor false false))) t314), (97, AV.pl 31 31 [Stp.dr]), (98, AV.pl 31 31 [Stp.dr]), (99, AV.pl 31 31 [Stp.dr, Stp.fld 0]), (100, AV.al 31 500031 [Stp.dr, Stp.fld 0]), (101, AV.v (Ty.int IntKind.i64) (Md.bor false true) (↑(List.length t313.fst) : Int)), (102, AV.v (Ty.int IntKind.i64) (Md.bor false true) t102)]⟩
theorem swap_build_h6 (nf : Nat)  (t313 : List Int × List Int × Unit) (fu : Nat) (t314 : List Int × List Int × Unit) (t102 : Int) : iter (fu + 1) (LC.F tab (swap_build_phi nf) (fun _ F => iter nf F) swap_build_keep 6 (swap_build_L6 nf )) (swap_build_m6 t313 t314 t102) = swap_build_b6 nf  t313  (fun t314 t102 => iter fu (LC.F tab (swap_build_phi nf) (fun _ F => iter nf F) swap_build_keep 6 (swap_build_L6 nf )) (swap_build_m6 t313 t314 t102)) t314 t102 := by kernel_rfl
theorem swap_build_e6 (nf : Nat)  (t313 : List Int × List Int × Unit) : ∀ (fu : Nat) (t314 : List Int × List Int × Unit) (t102 : Int), iter fu (LC.F tab (swap_build_phi nf) (fun _ F => iter nf F) swap_build_keep 6 (swap_build_L6 nf )) (swap_build_m6 t313 t314 t102) = swap_build_l6 nf t313  fu t314 t102 := by
  intro fu
  induction fu with
  | zero => intros; rfl
  | succ fu ih =>
    intro t314 t102
    rw [swap_build_h6 nf  t313 fu t314 t102]
    simp only [ih]
    rfl
theorem swap_build_h4 (nf : Nat)  (l' : List (Int × Int × Unit)) (fu : Nat) (given2 : List Bool) (t313 : List Int × List Int × Unit) (t74 : Int) : iter (fu + 1) (LC.F tab (swap_build_phi nf) (fun _ F => iter nf F) swap_build_keep 4 (swap_build_L4 nf )) (swap_build_m4 l' given2 t313 t74) = swap_build_b4 nf (fun p0 v0 v1 => iter nf (LC.F tab (swap_build_phi nf) (fun _ F => iter nf F) swap_build_keep 6 (swap_build_L6 nf )) (swap_build_m6 p0 v0 v1)) l'  (fun given2 t313 t74 => iter fu (LC.F tab (swap_build_phi nf) (fun _ F => iter nf F) swap_build_keep 4 (swap_build_L4 nf )) (swap_build_m4 l' given2 t313 t74)) given2 t313 t74 := by kernel_rfl
theorem swap_build_e4 (nf : Nat)  (l' : List (Int × Int × Unit)) : ∀ (fu : Nat) (given2 : List Bool) (t313 : List Int × List Int × Unit) (t74 : Int), iter fu (LC.F tab (swap_build_phi nf) (fun _ F => iter nf F) swap_build_keep 4 (swap_build_L4 nf )) (swap_build_m4 l' given2 t313 t74) = swap_build_l4 nf l'  fu given2 t313 t74 := by
  intro fu
  induction fu with
  | zero => intros; rfl
  | succ fu ih =>
    intro given2 t313 t74
    rw [swap_build_h4 nf  l' fu given2 t313 t74]
    simp only [ih, swap_build_e6]
    rfl
theorem swap_build_h2 (nf : Nat)  (l' : List (Int × Int × Unit)) (t31 : List Int × List Int × Unit) (fu : Nat) (given : List Bool) (t312 : List Int × List Int × Unit) (t61 : Int) : iter (fu + 1) (LC.F tab (swap_build_phi nf) (fun _ F => iter nf F) swap_build_keep 2 (swap_build_L2 nf )) (swap_build_m2 l' t31 given t312 t61) = swap_build_b2 nf (fun _ v0 v1 v2 => iter nf (LC.F tab (swap_build_phi nf) (fun _ F => iter nf F) swap_build_keep 4 (swap_build_L4 nf )) (swap_build_m4 l' v0 v1 v2)) l' t31  (fun given t312 t61 => iter fu (LC.F tab (swap_build_phi nf) (fun _ F => iter nf F) swap_build_keep 2 (swap_build_L2 nf )) (swap_build_m2 l' t31 given t312 t61)) given t312 t61 := by kernel_rfl
theorem swap_build_e2 (nf : Nat)  (l' : List (Int × Int × Unit)) (t31 : List Int × List Int × Unit) : ∀ (fu : Nat) (given : List Bool) (t312 : List Int × List Int × Unit) (t61 : Int), iter fu (LC.F tab (swap_build_phi nf) (fun _ F => iter nf F) swap_build_keep 2 (swap_build_L2 nf )) (swap_build_m2 l' t31 given t312 t61) = swap_build_l2 nf l' t31  fu given t312 t61 := by
  intro fu
  induction fu with
  | zero => intros; rfl
  | succ fu ih =>
    intro given t312 t61
    rw [swap_build_h2 nf  l' t31 fu given t312 t61]
    simp only [ih, swap_build_e4]
    rfl
theorem swap_build_h0 (nf : Nat)  (regs : Int) (l' : List (Int × Int × Unit)) (fu : Nat) (t31 : List Int × List Int × Unit) (t34 : Int) : iter (fu + 1) (LC.F tab (swap_build_phi nf) (fun _ F => iter nf F) swap_build_keep 0 (swap_build_L0 nf )) (swap_build_m0 regs l' t31 t34) = swap_build_b0 nf (fun _ p1 v0 v1 v2 => iter nf (LC.F tab (swap_build_phi nf) (fun _ F => iter nf F) swap_build_keep 2 (swap_build_L2 nf )) (swap_build_m2 l' p1 v0 v1 v2)) regs l'  (fun t31 t34 => iter fu (LC.F tab (swap_build_phi nf) (fun _ F => iter nf F) swap_build_keep 0 (swap_build_L0 nf )) (swap_build_m0 regs l' t31 t34)) t31 t34 := by kernel_rfl
theorem swap_build_e0 (nf : Nat)  (regs : Int) (l' : List (Int × Int × Unit)) : ∀ (fu : Nat) (t31 : List Int × List Int × Unit) (t34 : Int), iter fu (LC.F tab (swap_build_phi nf) (fun _ F => iter nf F) swap_build_keep 0 (swap_build_L0 nf )) (swap_build_m0 regs l' t31 t34) = swap_build_l0 nf regs l'  fu t31 t34 := by
  intro fu
  induction fu with
  | zero => intros; rfl
  | succ fu ih =>
    intro t31 t34
    rw [swap_build_h0 nf  regs l' fu t31 t34]
    simp only [ih, swap_build_e2]
    rfl
theorem swap_build_eq (nf : Nat) (regs : Int) (l' : List (Int × Int × Unit)) : runF tab (swap_build_phi nf) swap_build_keep nf [PT.val (Ty.int IntKind.i64) (Md.bor true false), PT.val ((Ty.int IntKind.i64).pair ((Ty.int IntKind.i64).pair Ty.unit)).sl (Md.bor true false)] [(((Ty.int IntKind.i64).sl.pair ((Ty.int IntKind.i64).sl.pair Ty.unit)).bx, Md.own false ((Md.own false (Md.bor false false)).pair ((Md.own false (Md.bor false false)).pair (Md.bor false false)))), (Ty.int IntKind.i64, Md.bor false true)] (resL ([]) Try.f44) (codeOf Try.f44) ⟨regs, l', ()⟩ = swap_build_f nf regs l' := by
  have h : runF tab (swap_build_phi nf) swap_build_keep nf [PT.val (Ty.int IntKind.i64) (Md.bor true false), PT.val ((Ty.int IntKind.i64).pair ((Ty.int IntKind.i64).pair Ty.unit)).sl (Md.bor true false)] [(((Ty.int IntKind.i64).sl.pair ((Ty.int IntKind.i64).sl.pair Ty.unit)).bx, Md.own false ((Md.own false (Md.bor false false)).pair ((Md.own false (Md.bor false false)).pair (Md.bor false false)))), (Ty.int IntKind.i64, Md.bor false true)] (resL ([]) Try.f44) (codeOf Try.f44) ⟨regs, l', ()⟩ = swap_build_p nf (fun p0 p1 v0 v1 => iter nf (LC.F tab (swap_build_phi nf) (fun _ F => iter nf F) swap_build_keep 0 (swap_build_L0 nf)) (swap_build_m0 p0 p1 v0 v1)) regs l' := by kernel_rfl
  rw [h]
  simp only [swap_build_e0]
  rfl
def swap_build_F (nf : Nat) (x : denPs [.val (.int .i64) (.bor true false), .val (.sl (.pair (.int .i64) (.pair (.int .i64) (.unit)))) (.bor true false)]) : Option (denL [(.bx (.pair (.sl (.int .i64)) (.pair (.sl (.int .i64)) (.unit))), .own false (.pair (.own false (.bor false false)) (.pair (.own false (.bor false false)) (.bor false false)))), (.int .i64, .bor false true)]) := swap_build_f nf x.1 x.2.1
def swap_build_C (nf : Nat) : Contract := ⟨[.val (.int .i64) (.bor true false), .val (.sl (.pair (.int .i64) (.pair (.int .i64) (.unit)))) (.bor true false)], [(.bx (.pair (.sl (.int .i64)) (.pair (.sl (.int .i64)) (.unit))), .own false (.pair (.own false (.bor false false)) (.pair (.own false (.bor false false)) (.bor false false)))), (.int .i64, .bor false true)], swap_build_F nf, []⟩
theorem swap_build_ok : FnOK Try.prog 44 := ⟨Try.f44, codeOf Try.f44, Try.func44, by kernel_rfl, by kernel_rfl⟩
theorem swap_build_holds (nf : Nat) : Contract.Holds Try.prog 44 (swap_build_C nf) :=
  fn_holds (Φ := swap_build_phi nf) (keep := swap_build_keep) (n := nf) ⟨tabs.1, tabs.2, ctx_nil, mixed, bk_ok bkls rfl⟩ (fn := Try.f44) ⟨Try.func44, by kernel_rfl, by kernel_rfl, by kernel_rfl⟩ (fun x => swap_build_eq nf x.1 x.2.1)

/-!   codemason swap.state .free -/
def swap_state_free_phi (nf : Nat) : Nat → Option Contract := lookC []
def swap_state_free_keep : Nat → List Nat := lookK [(2, [0, 3, 4, 5, 42, 59, 60, 61, 62, 63, 64]), (0, [0, 3, 4, 42])]
def swap_state_free_b0 (nf : Nat) (l2 : Int → List Int × List Int × Unit → List Int × List Int × Unit → List (Int × Int × Unit) → Int → Option (Option (List Int × List Int × Unit) × List (Int × Int × Unit) × Unit)) (g0 : List Int × List Int × Unit → List (Int × Int × Unit) → Int → Option (Option (List Int × List Int × Unit) × List (Int × Int × Unit) × Unit)) (s2 : List Int × List Int × Unit) (out : List (Int × Int × Unit)) (i : Int) : Option (Option (List Int × List Int × Unit) × List (Int × Int × Unit) × Unit) :=
  bif decide (i < (↑(List.length s2.fst) : Int)) then
    bif inb i (List.length s2.fst) then
      bif List.getD s2.fst i.toNat 0 == i then
        g0 s2 out (IntKind.i64.wrap (i + 1))
      else
        bif inb i (List.length s2.snd.fst) then
          bif decide (List.getD s2.snd.fst i.toNat 0 > 0) then
            g0 s2 out (IntKind.i64.wrap (i + 1))
          else
            bif bimp false ![(i, List.getD s2.fst i.toNat 0, ())].isEmpty && (out.length + [(i, List.getD s2.fst i.toNat 0, ())].length).ble lim then
              bif inb i (List.length s2.fst) then
                bif inb (List.getD s2.fst i.toNat 0) (List.length s2.snd.fst) then
                  bif inb (List.getD s2.fst i.toNat 0) (List.length s2.snd.fst) then
                    l2 i s2 ((List.set s2.fst i.toNat i, List.set s2.snd.fst (Int.toNat (List.getD s2.fst i.toNat 0)) (IntKind.i64.wrap (List.getD s2.snd.fst (Int.toNat (List.getD s2.fst i.toNat 0)) 0 - 1)), s2.snd.snd)) (out ++ [(i, List.getD s2.fst i.toNat 0, ())]) 0
                  else
                    none
                else
                  none
              else
                none
            else
              none
        else
          none
    else
      none
  else
    some ((some s2, out, ()))
def swap_state_free_b2 (nf : Nat) (i : Int) (s2 : List Int × List Int × Unit) (g0 : List Int × List Int × Unit → List (Int × Int × Unit) → Int → Option (Option (List Int × List Int × Unit) × List (Int × Int × Unit) × Unit)) (g2 : List Int × List Int × Unit → List (Int × Int × Unit) → Int → Option (Option (List Int × List Int × Unit) × List (Int × Int × Unit) × Unit)) (s3 : List Int × List Int × Unit) (out2 : List (Int × Int × Unit)) (t64 : Int) : Option (Option (List Int × List Int × Unit) × List (Int × Int × Unit) × Unit) :=
  bif decide (t64 < (↑(List.set s2.fst i.toNat i).length : Int)) then
    bif inb t64 (List.length s3.fst) then
      bif t64 != List.getD s3.fst t64.toNat 0 then
        bif List.getD s3.fst t64.toNat 0 == List.getD s2.fst i.toNat 0 then
          bif inb t64 (List.length s3.fst) then
            bif inb (List.getD s2.fst i.toNat 0) (List.length s3.snd.fst) then
              bif inb (List.getD s2.fst i.toNat 0) (List.length s3.snd.fst) then
                g2 ((List.set s3.fst t64.toNat i, List.set s3.snd.fst (Int.toNat (List.getD s2.fst i.toNat 0)) (IntKind.i64.wrap (List.getD s3.snd.fst (Int.toNat (List.getD s2.fst i.toNat 0)) 0 - 1)), s3.snd.snd)) out2 (IntKind.i64.wrap (t64 + 1))
              else
                none
            else
              none
          else
            none
        else
          g2 s3 out2 (IntKind.i64.wrap (t64 + 1))
      else
        g2 s3 out2 (IntKind.i64.wrap (t64 + 1))
    else
      none
  else
    g0 s3 out2 (IntKind.i64.wrap (-1 + 1))
def swap_state_free_p (nf : Nat) (l0 : List Int × List Int × Unit → List (Int × Int × Unit) → Int → Option (Option (List Int × List Int × Unit) × List (Int × Int × Unit) × Unit)) (s : List Int × List Int × Unit) : Option (Option (List Int × List Int × Unit) × List (Int × Int × Unit) × Unit) :=
  l0 s [] 0
def swap_state_free_l2 (nf : Nat) (i : Int) (s2 : List Int × List Int × Unit) (g0 : List Int × List Int × Unit → List (Int × Int × Unit) → Int → Option (Option (List Int × List Int × Unit) × List (Int × Int × Unit) × Unit)) : Nat → List Int × List Int × Unit → List (Int × Int × Unit) → Int → Option (Option (List Int × List Int × Unit) × List (Int × Int × Unit) × Unit)
  | 0, _, _, _ => none
  | fu + 1, s3, out2, t64 => swap_state_free_b2 nf  i s2 g0 (swap_state_free_l2 nf i s2 g0 fu) s3 out2 t64
def swap_state_free_l0 (nf : Nat)  : Nat → List Int × List Int × Unit → List (Int × Int × Unit) → Int → Option (Option (List Int × List Int × Unit) × List (Int × Int × Unit) × Unit)
  | 0, _, _, _ => none
  | fu + 1, s2, out, i => swap_state_free_b0 nf (fun p0 p1 v0 v1 v2 => swap_state_free_l2 nf p0 p1 (fun s2 out i => swap_state_free_l0 nf   fu s2 out i) nf v0 v1 v2)   (swap_state_free_l0 nf   fu) s2 out i
def swap_state_free_f (nf : Nat) (s : List Int × List Int × Unit) : Option (Option (List Int × List Int × Unit) × List (Int × Int × Unit) × Unit) := swap_state_free_p nf (fun  v0 v1 v2 => swap_state_free_l0 nf  nf v0 v1 v2) s
noncomputable def swap_state_free_L0 (nf : Nat) : LC (Option (List Int × List Int × Unit) × List (Int × Int × Unit) × Unit) := theL (findL tab (swap_state_free_phi nf) (fun _ F => iter nf F) swap_state_free_keep 0 0 (codeOf Try.f45) (fin tab [(((Ty.int IntKind.i64).sl.pair ((Ty.int IntKind.i64).sl.pair Ty.unit)).bx, Md.own false ((Md.own false (Md.bor false false)).pair ((Md.own false (Md.bor false false)).pair (Md.bor false false)))), (((Ty.int IntKind.i64).pair ((Ty.int IntKind.i64).pair Ty.unit)).sl, Md.own false (Md.bor false false))] (resL ([0]) Try.f45)) (fun _ _ => none) (fin tab [(((Ty.int IntKind.i64).sl.pair ((Ty.int IntKind.i64).sl.pair Ty.unit)).bx, Md.own false ((Md.own false (Md.bor false false)).pair ((Md.own false (Md.bor false false)).pair (Md.bor false false)))), (((Ty.int IntKind.i64).pair ((Ty.int IntKind.i64).pair Ty.unit)).sl, Md.own false (Md.bor false false))] (resL ([0]) Try.f45)))
def swap_state_free_m0 (s2 : List Int × List Int × Unit) (out : List (Int × Int × Unit)) (i : Int) : St := ⟨fresh, [(0, AV.box 0 500000 ((Ty.int IntKind.i64).sl.pair ((Ty.int IntKind.i64).sl.pair Ty.unit)) ((Md.own false (Md.bor false false)).pair ((Md.own false (Md.bor false false)).pair (Md.bor false false))) s2), (3, AV.ow 500003 ((Ty.int IntKind.i64).pair ((Ty.int IntKind.i64).pair Ty.unit)).sl (Md.own false (Md.bor false false)) out), (4, AV.v (Ty.int IntKind.i64) (Md.bor false true) i), (42, AV.dead)]⟩
noncomputable def swap_state_free_L2 (nf : Nat) (G0 : St → Option (Option (List Int × List Int × Unit) × List (Int × Int × Unit) × Unit)) : LC (Option (List Int × List Int × Unit) × List (Int × Int × Unit) × Unit) := theL (findL tab (swap_state_free_phi nf) (fun _ F => iter nf F) swap_state_free_keep 2 0 (swap_state_free_L0 nf ).c (fun st => norm (swap_state_free_keep 0) st G0) (swap_state_free_L0 nf ).Kx (swap_state_free_L0 nf ).Kr)
def swap_state_free_m2 (i : Int) (s2 : List Int × List Int × Unit) (s3 : List Int × List Int × Unit) (out2 : List (Int × Int × Unit)) (t64 : Int) : St := ⟨fresh, [(0, AV.box 0 500000 ((Ty.int IntKind.i64).sl.pair ((Ty.int IntKind.i64).sl.pair Ty.unit)) ((Md.own false (Md.bor false false)).pair ((Md.own false (Md.bor false false)).pair (Md.bor false false))) s3), (3, AV.ow 500003 ((Ty.int IntKind.i64).pair ((Ty.int IntKind.i64).pair Ty.unit)).sl (Md.own false (Md.bor false false)) out2), (4, AV.v (Ty.int IntKind.i64) (Md.bor false true) i), (5, AV.v (Ty.int IntKind.i64) (Md.bor false true) (List.getD s2.fst i.toNat 0)), (42, AV.dead), (59, AV.pl 0 0 [Stp.dr]), (60, AV.pl 0 0 [Stp.dr]), (61, AV.pl 0 0 [Stp.dr, Stp.fld 0]), (62, AV.al 0 500000 [Stp.dr, Stp.fld 0]), (63, AV.v (Ty.int IntKind.i64) (Md.bor false true) (↑(List.set s2.fst i.toNat i).length : Int)), (64, AV.v (Ty.int IntKind.i64) (Md.bor false true) t64)]⟩
theorem swap_state_free_h2 (nf : Nat) (G0 : St → Option (Option (List Int × List Int × Unit) × List (Int × Int × Unit) × Unit)) (i : Int) (s2 : List Int × List Int × Unit) (fu : Nat) (s3 : List Int × List Int × Unit) (out2 : List (Int × Int × Unit)) (t64 : Int) : iter (fu + 1) (LC.F tab (swap_state_free_phi nf) (fun _ F => iter nf F) swap_state_free_keep 2 (swap_state_free_L2 nf G0)) (swap_state_free_m2 i s2 s3 out2 t64) = swap_state_free_b2 nf  i s2 (fun s2 out i => G0 (swap_state_free_m0  s2 out i)) (fun s3 out2 t64 => iter fu (LC.F tab (swap_state_free_phi nf) (fun _ F => iter nf F) swap_state_free_keep 2 (swap_state_free_L2 nf G0)) (swap_state_free_m2 i s2 s3 out2 t64)) s3 out2 t64 := by kernel_rfl
theorem swap_state_free_e2 (nf : Nat) (G0 : St → Option (Option (List Int × List Int × Unit) × List (Int × Int × Unit) × Unit)) (i : Int) (s2 : List Int × List Int × Unit) : ∀ (fu : Nat) (s3 : List Int × List Int × Unit) (out2 : List (Int × Int × Unit)) (t64 : Int), iter fu (LC.F tab (swap_state_free_phi nf) (fun _ F => iter nf F) swap_state_free_keep 2 (swap_state_free_L2 nf G0)) (swap_state_free_m2 i s2 s3 out2 t64) = swap_state_free_l2 nf i s2 (fun s2 out i => G0 (swap_state_free_m0  s2 out i)) fu s3 out2 t64 := by
  intro fu
  induction fu with
  | zero => intros; rfl
  | succ fu ih =>
    intro s3 out2 t64
    rw [swap_state_free_h2 nf G0 i s2 fu s3 out2 t64]
    simp only [ih]
    rfl
theorem swap_state_free_h0 (nf : Nat)   (fu : Nat) (s2 : List Int × List Int × Unit) (out : List (Int × Int × Unit)) (i : Int) : iter (fu + 1) (LC.F tab (swap_state_free_phi nf) (fun _ F => iter nf F) swap_state_free_keep 0 (swap_state_free_L0 nf )) (swap_state_free_m0  s2 out i) = swap_state_free_b0 nf (fun p0 p1 v0 v1 v2 => iter nf (LC.F tab (swap_state_free_phi nf) (fun _ F => iter nf F) swap_state_free_keep 2 (swap_state_free_L2 nf (iter fu (LC.F tab (swap_state_free_phi nf) (fun _ F => iter nf F) swap_state_free_keep 0 (swap_state_free_L0 nf ))))) (swap_state_free_m2 p0 p1 v0 v1 v2))   (fun s2 out i => iter fu (LC.F tab (swap_state_free_phi nf) (fun _ F => iter nf F) swap_state_free_keep 0 (swap_state_free_L0 nf )) (swap_state_free_m0  s2 out i)) s2 out i := by kernel_rfl
theorem swap_state_free_e0 (nf : Nat)   : ∀ (fu : Nat) (s2 : List Int × List Int × Unit) (out : List (Int × Int × Unit)) (i : Int), iter fu (LC.F tab (swap_state_free_phi nf) (fun _ F => iter nf F) swap_state_free_keep 0 (swap_state_free_L0 nf )) (swap_state_free_m0  s2 out i) = swap_state_free_l0 nf   fu s2 out i := by
  intro fu
  induction fu with
  | zero => intros; rfl
  | succ fu ih =>
    intro s2 out i
    rw [swap_state_free_h0 nf   fu s2 out i]
    simp only [ih, swap_state_free_e2]
    rfl
theorem swap_state_free_eq (nf : Nat) (s : List Int × List Int × Unit) : runF tab (swap_state_free_phi nf) swap_state_free_keep nf [PT.box ((Ty.int IntKind.i64).sl.pair ((Ty.int IntKind.i64).sl.pair Ty.unit)) ((Md.own false (Md.bor false false)).pair ((Md.own false (Md.bor false false)).pair (Md.bor false false)))] [(((Ty.int IntKind.i64).sl.pair ((Ty.int IntKind.i64).sl.pair Ty.unit)).bx, Md.own false ((Md.own false (Md.bor false false)).pair ((Md.own false (Md.bor false false)).pair (Md.bor false false)))), (((Ty.int IntKind.i64).pair ((Ty.int IntKind.i64).pair Ty.unit)).sl, Md.own false (Md.bor false false))] (resL ([0]) Try.f45) (codeOf Try.f45) ⟨s, ()⟩ = swap_state_free_f nf s := by
  have h : runF tab (swap_state_free_phi nf) swap_state_free_keep nf [PT.box ((Ty.int IntKind.i64).sl.pair ((Ty.int IntKind.i64).sl.pair Ty.unit)) ((Md.own false (Md.bor false false)).pair ((Md.own false (Md.bor false false)).pair (Md.bor false false)))] [(((Ty.int IntKind.i64).sl.pair ((Ty.int IntKind.i64).sl.pair Ty.unit)).bx, Md.own false ((Md.own false (Md.bor false false)).pair ((Md.own false (Md.bor false false)).pair (Md.bor false false)))), (((Ty.int IntKind.i64).pair ((Ty.int IntKind.i64).pair Ty.unit)).sl, Md.own false (Md.bor false false))] (resL ([0]) Try.f45) (codeOf Try.f45) ⟨s, ()⟩ = swap_state_free_p nf (fun  v0 v1 v2 => iter nf (LC.F tab (swap_state_free_phi nf) (fun _ F => iter nf F) swap_state_free_keep 0 (swap_state_free_L0 nf)) (swap_state_free_m0  v0 v1 v2)) s := by kernel_rfl
  rw [h]
  simp only [swap_state_free_e0]
  rfl
def swap_state_free_F (nf : Nat) (x : denPs [.box (.pair (.sl (.int .i64)) (.pair (.sl (.int .i64)) (.unit))) (.pair (.own false (.bor false false)) (.pair (.own false (.bor false false)) (.bor false false)))]) : Option (denL [(.bx (.pair (.sl (.int .i64)) (.pair (.sl (.int .i64)) (.unit))), .own false (.pair (.own false (.bor false false)) (.pair (.own false (.bor false false)) (.bor false false)))), (.sl (.pair (.int .i64) (.pair (.int .i64) (.unit))), .own false (.bor false false))]) := swap_state_free_f nf x.1
def swap_state_free_C (nf : Nat) : Contract := ⟨[.box (.pair (.sl (.int .i64)) (.pair (.sl (.int .i64)) (.unit))) (.pair (.own false (.bor false false)) (.pair (.own false (.bor false false)) (.bor false false)))], [(.bx (.pair (.sl (.int .i64)) (.pair (.sl (.int .i64)) (.unit))), .own false (.pair (.own false (.bor false false)) (.pair (.own false (.bor false false)) (.bor false false)))), (.sl (.pair (.int .i64) (.pair (.int .i64) (.unit))), .own false (.bor false false))], swap_state_free_F nf, [0]⟩
theorem swap_state_free_ok : FnOK Try.prog 45 := ⟨Try.f45, codeOf Try.f45, Try.func45, by kernel_rfl, by kernel_rfl⟩
theorem swap_state_free_holds (nf : Nat) : Contract.Holds Try.prog 45 (swap_state_free_C nf) :=
  fn_holds (Φ := swap_state_free_phi nf) (keep := swap_state_free_keep) (n := nf) ⟨tabs.1, tabs.2, ctx_nil, mixed, bk_ok bkls rfl⟩ (fn := Try.f45) ⟨Try.func45, by kernel_rfl, by kernel_rfl, by kernel_rfl⟩ (fun x => swap_state_free_eq nf x.1)

/-! codemason swap.Order -/
def swap_Order_phi (nf : Nat) : Nat → Option Contract := lookC [(44, swap_build_C nf), (45, swap_state_free_C nf)]
def swap_Order_keep : Nat → List Nat := lookK [(2, [0, 6, 8, 9, 10, 12, 15, 16, 22, 27, 28, 45, 68, 82]), (0, [0, 6, 8, 12, 15, 16, 22, 27, 28, 45, 68, 82])]
def swap_Order_b0 (nf : Nat) (l2 : Int → Int → List Int × List Int × Unit → List (Int × Int × Unit) → Int → List Int × List Int × Unit → Option (List (Int × Int × Unit) × Int × Unit)) (regs : Int) (r4 : List Int × List Int × Unit) (g0 : List (Int × Int × Unit) → List Int × List Int × Unit → Int → Option (List (Int × Int × Unit) × Int × Unit)) (out : List (Int × Int × Unit)) (t16 : List Int × List Int × Unit) (t28 : Int) : Option (List (Int × Int × Unit) × Int × Unit) :=
  bif decide (t28 < (↑(List.length r4.fst) : Int)) then
    bif inb t28 (List.length t16.fst) then
      bif List.getD t16.fst t28.toNat 0 == t28 then
        g0 out t16 (IntKind.i64.wrap (t28 + 1))
      else
        bif bimp false ![(regs, t28, ())].isEmpty && (out.length + [(regs, t28, ())].length).ble lim then
          l2 regs t28 r4 (out ++ [(regs, t28, ())]) t28 t16
        else
          none
    else
      none
  else
    some ((out, 0, ()))
def swap_Order_b2 (nf : Nat) (regs : Int) (t28 : Int) (r4 : List Int × List Int × Unit) (g0 : List (Int × Int × Unit) → List Int × List Int × Unit → Int → Option (List (Int × Int × Unit) × Int × Unit)) (g2 : List (Int × Int × Unit) → Int → List Int × List Int × Unit → Option (List (Int × Int × Unit) × Int × Unit)) (out2 : List (Int × Int × Unit)) (at' : Int) (t162 : List Int × List Int × Unit) : Option (List (Int × Int × Unit) × Int × Unit) :=
  bif inb at' (List.length t162.fst) then
    bif List.getD t162.fst at'.toNat 0 != t28 then
      bif inb at' (List.length t162.fst) then
        bif bimp false ![(at', List.getD t162.fst at'.toNat 0, ())].isEmpty && (out2.length + [(at', List.getD t162.fst at'.toNat 0, ())].length).ble lim then
          bif inb at' (List.length t162.fst) then
            g2 (out2 ++ [(at', List.getD t162.fst at'.toNat 0, ())]) (List.getD t162.fst at'.toNat 0) ((List.set t162.fst at'.toNat at', t162.snd))
          else
            none
        else
          none
      else
        none
    else
      bif bimp false ![(at', regs, ())].isEmpty && (out2.length + [(at', regs, ())].length).ble lim then
        bif inb at' (List.length t162.fst) then
          g0 (out2 ++ [(at', regs, ())]) ((List.set t162.fst at'.toNat at', t162.snd)) (IntKind.i64.wrap (t28 + 1))
        else
          none
      else
        none
  else
    none
def swap_Order_p (nf : Nat) (l0 : Int → List Int × List Int × Unit → List (Int × Int × Unit) → List Int × List Int × Unit → Int → Option (List (Int × Int × Unit) × Int × Unit)) (regs : Int) (l' : List (Int × Int × Unit)) : Option (List (Int × Int × Unit) × Int × Unit) :=
  Option.bind (swap_build_f nf regs l') fun r =>
  match r.fst with
  | none => bif r.snd.fst != 0 then
        some (([], r.snd.fst, ()))
      else
        none
  | some r2 =>
  bif r.snd.fst != 0 then
    some (([], r.snd.fst, ()))
  else
    Option.bind (swap_state_free_f nf r2) fun r3 =>
    Option.bind r3.fst fun r4 =>
    l0 regs r4 r3.snd.fst r4 0
def swap_Order_l2 (nf : Nat) (regs : Int) (t28 : Int) (r4 : List Int × List Int × Unit) (g0 : List (Int × Int × Unit) → List Int × List Int × Unit → Int → Option (List (Int × Int × Unit) × Int × Unit)) : Nat → List (Int × Int × Unit) → Int → List Int × List Int × Unit → Option (List (Int × Int × Unit) × Int × Unit)
  | 0, _, _, _ => none
  | fu + 1, out2, at', t162 => swap_Order_b2 nf  regs t28 r4 g0 (swap_Order_l2 nf regs t28 r4 g0 fu) out2 at' t162
def swap_Order_l0 (nf : Nat) (regs : Int) (r4 : List Int × List Int × Unit) : Nat → List (Int × Int × Unit) → List Int × List Int × Unit → Int → Option (List (Int × Int × Unit) × Int × Unit)
  | 0, _, _, _ => none
  | fu + 1, out, t16, t28 => swap_Order_b0 nf (fun _ p1 _ v0 v1 v2 => swap_Order_l2 nf regs p1 r4 (fun out t16 t28 => swap_Order_l0 nf regs r4  fu out t16 t28) nf v0 v1 v2) regs r4  (swap_Order_l0 nf regs r4  fu) out t16 t28
def swap_Order_f (nf : Nat) (regs : Int) (l' : List (Int × Int × Unit)) : Option (List (Int × Int × Unit) × Int × Unit) := swap_Order_p nf (fun p0 p1 v0 v1 v2 => swap_Order_l0 nf p0 p1 nf v0 v1 v2) regs l'
noncomputable def swap_Order_L0 (nf : Nat) : LC (List (Int × Int × Unit) × Int × Unit) := theL (findL tab (swap_Order_phi nf) (fun _ F => iter nf F) swap_Order_keep 0 0 (codeOf Try.f21) (fin tab [(((Ty.int IntKind.i64).pair ((Ty.int IntKind.i64).pair Ty.unit)).sl, Md.own false (Md.bor false false)), (Ty.int IntKind.i64, Md.bor false true)] (resL ([]) Try.f21)) (fun _ _ => none) (fin tab [(((Ty.int IntKind.i64).pair ((Ty.int IntKind.i64).pair Ty.unit)).sl, Md.own false (Md.bor false false)), (Ty.int IntKind.i64, Md.bor false true)] (resL ([]) Try.f21)))
def swap_Order_m0 (regs : Int) (r4 : List Int × List Int × Unit) (out : List (Int × Int × Unit)) (t16 : List Int × List Int × Unit) (t28 : Int) : St := ⟨fresh, [(0, AV.v (Ty.int IntKind.i64) (Md.bor false true) regs), (6, AV.pl 16 16 [Stp.dr]), (8, AV.ow 500008 ((Ty.int IntKind.i64).pair ((Ty.int IntKind.i64).pair Ty.unit)).sl (Md.own false (Md.bor false false)) out), (12, AV.dead), (15, AV.dead), (16, AV.box 16 500016 ((Ty.int IntKind.i64).sl.pair ((Ty.int IntKind.i64).sl.pair Ty.unit)) ((Md.own false (Md.bor false false)).pair ((Md.own false (Md.bor false false)).pair (Md.bor false false))) t16), (22, AV.dead), (27, AV.v (Ty.int IntKind.i64) (Md.bor false true) (↑(List.length r4.fst) : Int)), (28, AV.v (Ty.int IntKind.i64) (Md.bor false true) t28), (45, AV.dead), (68, AV.dead), (82, AV.dead)]⟩
noncomputable def swap_Order_L2 (nf : Nat) (G0 : St → Option (List (Int × Int × Unit) × Int × Unit)) : LC (List (Int × Int × Unit) × Int × Unit) := theL (findL tab (swap_Order_phi nf) (fun _ F => iter nf F) swap_Order_keep 2 0 (swap_Order_L0 nf ).c (fun st => norm (swap_Order_keep 0) st G0) (swap_Order_L0 nf ).Kx (swap_Order_L0 nf ).Kr)
def swap_Order_m2 (regs : Int) (t28 : Int) (r4 : List Int × List Int × Unit) (out2 : List (Int × Int × Unit)) (at' : Int) (t162 : List Int × List Int × Unit) : St := ⟨fresh, [(0, AV.v (Ty.int IntKind.i64) (Md.bor false true) regs), (6, AV.pl 16 16 [Stp.dr]), (8, AV.ow 500008 ((Ty.int IntKind.i64).pair ((Ty.int IntKind.i64).pair Ty.unit)).sl (Md.own false (Md.bor false false)) out2), (9, AV.v (Ty.int IntKind.i64) (Md.bor false true) t28), (10, AV.v (Ty.int IntKind.i64) (Md.bor false true) at'), (12, AV.dead), (15, AV.dead), (16, AV.box 16 500016 ((Ty.int IntKind.i64).sl.pair ((Ty.int IntKind.i64).sl.pair Ty.unit)) ((Md.own false (Md.bor false false)).pair ((Md.own false (Md.bor false false)).pair (Md.bor false false))) t162), (22, AV.dead), (27, AV.v (Ty.int IntKind.i64) (Md.bor false true) (↑(List.length r4.fst) : Int)), (28, AV.v (Ty.int IntKind.i64) (Md.bor false true) t28), (45, AV.dead), (68, AV.dead), (82, AV.dead)]⟩
theorem swap_Order_h2 (nf : Nat) (G0 : St → Option (List (Int × Int × Unit) × Int × Unit)) (regs : Int) (t28 : Int) (r4 : List Int × List Int × Unit) (fu : Nat) (out2 : List (Int × Int × Unit)) (at' : Int) (t162 : List Int × List Int × Unit) : iter (fu + 1) (LC.F tab (swap_Order_phi nf) (fun _ F => iter nf F) swap_Order_keep 2 (swap_Order_L2 nf G0)) (swap_Order_m2 regs t28 r4 out2 at' t162) = swap_Order_b2 nf  regs t28 r4 (fun out t16 t28 => G0 (swap_Order_m0 regs r4 out t16 t28)) (fun out2 at' t162 => iter fu (LC.F tab (swap_Order_phi nf) (fun _ F => iter nf F) swap_Order_keep 2 (swap_Order_L2 nf G0)) (swap_Order_m2 regs t28 r4 out2 at' t162)) out2 at' t162 := by kernel_rfl
theorem swap_Order_e2 (nf : Nat) (G0 : St → Option (List (Int × Int × Unit) × Int × Unit)) (regs : Int) (t28 : Int) (r4 : List Int × List Int × Unit) : ∀ (fu : Nat) (out2 : List (Int × Int × Unit)) (at' : Int) (t162 : List Int × List Int × Unit), iter fu (LC.F tab (swap_Order_phi nf) (fun _ F => iter nf F) swap_Order_keep 2 (swap_Order_L2 nf G0)) (swap_Order_m2 regs t28 r4 out2 at' t162) = swap_Order_l2 nf regs t28 r4 (fun out t16 t28 => G0 (swap_Order_m0 regs r4 out t16 t28)) fu out2 at' t162 := by
  intro fu
  induction fu with
  | zero => intros; rfl
  | succ fu ih =>
    intro out2 at' t162
    rw [swap_Order_h2 nf G0 regs t28 r4 fu out2 at' t162]
    simp only [ih]
    rfl
theorem swap_Order_h0 (nf : Nat)  (regs : Int) (r4 : List Int × List Int × Unit) (fu : Nat) (out : List (Int × Int × Unit)) (t16 : List Int × List Int × Unit) (t28 : Int) : iter (fu + 1) (LC.F tab (swap_Order_phi nf) (fun _ F => iter nf F) swap_Order_keep 0 (swap_Order_L0 nf )) (swap_Order_m0 regs r4 out t16 t28) = swap_Order_b0 nf (fun _ p1 _ v0 v1 v2 => iter nf (LC.F tab (swap_Order_phi nf) (fun _ F => iter nf F) swap_Order_keep 2 (swap_Order_L2 nf (iter fu (LC.F tab (swap_Order_phi nf) (fun _ F => iter nf F) swap_Order_keep 0 (swap_Order_L0 nf ))))) (swap_Order_m2 regs p1 r4 v0 v1 v2)) regs r4  (fun out t16 t28 => iter fu (LC.F tab (swap_Order_phi nf) (fun _ F => iter nf F) swap_Order_keep 0 (swap_Order_L0 nf )) (swap_Order_m0 regs r4 out t16 t28)) out t16 t28 := by kernel_rfl
theorem swap_Order_e0 (nf : Nat)  (regs : Int) (r4 : List Int × List Int × Unit) : ∀ (fu : Nat) (out : List (Int × Int × Unit)) (t16 : List Int × List Int × Unit) (t28 : Int), iter fu (LC.F tab (swap_Order_phi nf) (fun _ F => iter nf F) swap_Order_keep 0 (swap_Order_L0 nf )) (swap_Order_m0 regs r4 out t16 t28) = swap_Order_l0 nf regs r4  fu out t16 t28 := by
  intro fu
  induction fu with
  | zero => intros; rfl
  | succ fu ih =>
    intro out t16 t28
    rw [swap_Order_h0 nf  regs r4 fu out t16 t28]
    simp only [ih, swap_Order_e2]
    rfl
theorem swap_Order_eq (nf : Nat) (regs : Int) (l' : List (Int × Int × Unit)) : runF tab (swap_Order_phi nf) swap_Order_keep nf [PT.val (Ty.int IntKind.i64) (Md.bor true false), PT.val ((Ty.int IntKind.i64).pair ((Ty.int IntKind.i64).pair Ty.unit)).sl (Md.bor true false)] [(((Ty.int IntKind.i64).pair ((Ty.int IntKind.i64).pair Ty.unit)).sl, Md.own false (Md.bor false false)), (Ty.int IntKind.i64, Md.bor false true)] (resL ([]) Try.f21) (codeOf Try.f21) ⟨regs, l', ()⟩ = swap_Order_f nf regs l' := by
  have h : runF tab (swap_Order_phi nf) swap_Order_keep nf [PT.val (Ty.int IntKind.i64) (Md.bor true false), PT.val ((Ty.int IntKind.i64).pair ((Ty.int IntKind.i64).pair Ty.unit)).sl (Md.bor true false)] [(((Ty.int IntKind.i64).pair ((Ty.int IntKind.i64).pair Ty.unit)).sl, Md.own false (Md.bor false false)), (Ty.int IntKind.i64, Md.bor false true)] (resL ([]) Try.f21) (codeOf Try.f21) ⟨regs, l', ()⟩ = swap_Order_p nf (fun p0 p1 v0 v1 v2 => iter nf (LC.F tab (swap_Order_phi nf) (fun _ F => iter nf F) swap_Order_keep 0 (swap_Order_L0 nf)) (swap_Order_m0 p0 p1 v0 v1 v2)) regs l' := by kernel_rfl
  rw [h]
  simp only [swap_Order_e0]
  rfl
def swap_Order_F (nf : Nat) (x : denPs [.val (.int .i64) (.bor true false), .val (.sl (.pair (.int .i64) (.pair (.int .i64) (.unit)))) (.bor true false)]) : Option (denL [(.sl (.pair (.int .i64) (.pair (.int .i64) (.unit))), .own false (.bor false false)), (.int .i64, .bor false true)]) := swap_Order_f nf x.1 x.2.1
def swap_Order_C (nf : Nat) : Contract := ⟨[.val (.int .i64) (.bor true false), .val (.sl (.pair (.int .i64) (.pair (.int .i64) (.unit)))) (.bor true false)], [(.sl (.pair (.int .i64) (.pair (.int .i64) (.unit))), .own false (.bor false false)), (.int .i64, .bor false true)], swap_Order_F nf, []⟩
theorem swap_Order_ok : FnOK Try.prog 21 := ⟨Try.f21, codeOf Try.f21, Try.func21, by kernel_rfl, by kernel_rfl⟩
theorem swap_Order_holds (nf : Nat) : Contract.Holds Try.prog 21 (swap_Order_C nf) :=
  fn_holds (Φ := swap_Order_phi nf) (keep := swap_Order_keep) (n := nf) ⟨tabs.1, tabs.2, (ctx_cons swap_build_ok (swap_build_holds nf) (ctx_cons swap_state_free_ok (swap_state_free_holds nf) ctx_nil)), mixed, bk_ok bkls rfl⟩ (fn := Try.f21) ⟨Try.func21, by kernel_rfl, by kernel_rfl, by kernel_rfl⟩ (fun x => swap_Order_eq nf x.1 x.2.1)

/-! codemason codemasonref.Inside -/
def ref_Inside_phi (nf : Nat) : Nat → Option Contract := lookC []
def ref_Inside_keep : Nat → List Nat := lookK [(0, [0, 1, 7, 8, 9])]
def ref_Inside_b0 (nf : Nat) (n' : Int) (l' : List Int) (g0 : Int → Option (Bool × Unit)) (t9 : Int) : Option (Bool × Unit) :=
  bif decide (t9 < (↑l'.length : Int)) then
    bif inb t9 l'.length then
      bif decide (l'.getD t9.toNat 0 < 0) then
        some ((false, ()))
      else
        bif decide (l'.getD t9.toNat 0 ≥ n') then
          some ((false, ()))
        else
          g0 (IntKind.i64.wrap (t9 + 1))
    else
      none
  else
    some ((true, ()))
def ref_Inside_p (nf : Nat) (l0 : Int → List Int → Int → Option (Bool × Unit)) (n' : Int) (l' : List Int) : Option (Bool × Unit) :=
  l0 n' l' 0
def ref_Inside_l0 (nf : Nat) (n' : Int) (l' : List Int) : Nat → Int → Option (Bool × Unit)
  | 0, _ => none
  | fu + 1, t9 => ref_Inside_b0 nf  n' l'  (ref_Inside_l0 nf n' l'  fu) t9
def ref_Inside_f (nf : Nat) (n' : Int) (l' : List Int) : Option (Bool × Unit) := ref_Inside_p nf (fun p0 p1 v0 => ref_Inside_l0 nf p0 p1 nf v0) n' l'
noncomputable def ref_Inside_L0 (nf : Nat) : LC (Bool × Unit) := theL (findL tab (ref_Inside_phi nf) (fun _ F => iter nf F) ref_Inside_keep 0 0 (codeOf Try.f24) (fin tab [(Ty.bool, Md.bor false true)] (resL ([]) Try.f24)) (fun _ _ => none) (fin tab [(Ty.bool, Md.bor false true)] (resL ([]) Try.f24)))
def ref_Inside_m0 (n' : Int) (l' : List Int) (t9 : Int) : St := ⟨fresh, [(0, AV.v (Ty.int IntKind.i64) (Md.bor false true) n'), (1, AV.v (Ty.int IntKind.i64).sl (Md.bor true false) l'), (7, AV.v (Ty.int IntKind.i64).sl (Md.bor true false) l'), (8, AV.v (Ty.int IntKind.i64) (Md.bor false true) (↑l'.length : Int)), (9, AV.v (Ty.int IntKind.i64) (Md.bor false true) t9)]⟩
theorem ref_Inside_h0 (nf : Nat)  (n' : Int) (l' : List Int) (fu : Nat) (t9 : Int) : iter (fu + 1) (LC.F tab (ref_Inside_phi nf) (fun _ F => iter nf F) ref_Inside_keep 0 (ref_Inside_L0 nf )) (ref_Inside_m0 n' l' t9) = ref_Inside_b0 nf  n' l'  (fun t9 => iter fu (LC.F tab (ref_Inside_phi nf) (fun _ F => iter nf F) ref_Inside_keep 0 (ref_Inside_L0 nf )) (ref_Inside_m0 n' l' t9)) t9 := by kernel_rfl
theorem ref_Inside_e0 (nf : Nat)  (n' : Int) (l' : List Int) : ∀ (fu : Nat) (t9 : Int), iter fu (LC.F tab (ref_Inside_phi nf) (fun _ F => iter nf F) ref_Inside_keep 0 (ref_Inside_L0 nf )) (ref_Inside_m0 n' l' t9) = ref_Inside_l0 nf n' l'  fu t9 := by
  intro fu
  induction fu with
  | zero => intros; rfl
  | succ fu ih =>
    intro t9
    rw [ref_Inside_h0 nf  n' l' fu t9]
    simp only [ih]
    rfl
theorem ref_Inside_eq (nf : Nat) (n' : Int) (l' : List Int) : runF tab (ref_Inside_phi nf) ref_Inside_keep nf [PT.val (Ty.int IntKind.i64) (Md.bor true false), PT.val (Ty.int IntKind.i64).sl (Md.bor true false)] [(Ty.bool, Md.bor false true)] (resL ([]) Try.f24) (codeOf Try.f24) ⟨n', l', ()⟩ = ref_Inside_f nf n' l' := by
  have h : runF tab (ref_Inside_phi nf) ref_Inside_keep nf [PT.val (Ty.int IntKind.i64) (Md.bor true false), PT.val (Ty.int IntKind.i64).sl (Md.bor true false)] [(Ty.bool, Md.bor false true)] (resL ([]) Try.f24) (codeOf Try.f24) ⟨n', l', ()⟩ = ref_Inside_p nf (fun p0 p1 v0 => iter nf (LC.F tab (ref_Inside_phi nf) (fun _ F => iter nf F) ref_Inside_keep 0 (ref_Inside_L0 nf)) (ref_Inside_m0 p0 p1 v0)) n' l' := by kernel_rfl
  rw [h]
  simp only [ref_Inside_e0]
  rfl
def ref_Inside_F (nf : Nat) (x : denPs [.val (.int .i64) (.bor true false), .val (.sl (.int .i64)) (.bor true false)]) : Option (denL [(.bool, .bor false true)]) := ref_Inside_f nf x.1 x.2.1
def ref_Inside_C (nf : Nat) : Contract := ⟨[.val (.int .i64) (.bor true false), .val (.sl (.int .i64)) (.bor true false)], [(.bool, .bor false true)], ref_Inside_F nf, []⟩
theorem ref_Inside_ok : FnOK Try.prog 24 := ⟨Try.f24, codeOf Try.f24, Try.func24, by kernel_rfl, by kernel_rfl⟩
theorem ref_Inside_holds (nf : Nat) : Contract.Holds Try.prog 24 (ref_Inside_C nf) :=
  fn_holds (Φ := ref_Inside_phi nf) (keep := ref_Inside_keep) (n := nf) ⟨tabs.1, tabs.2, ctx_nil, mixed, bk_ok bkls rfl⟩ (fn := Try.f24) ⟨Try.func24, by kernel_rfl, by kernel_rfl, by kernel_rfl⟩ (fun x => ref_Inside_eq nf x.1 x.2.1)

/-! codemason codemasonref.MovesCheck -/
def ref_MovesCheck_phi (nf : Nat) : Nat → Option Contract := lookC [(24, ref_Inside_C nf)]
def ref_MovesCheck_keep : Nat → List Nat := lookK [(4, [1, 7, 8]), (2, [1, 7]), (0, [0, 1, 20, 21, 22])]
def ref_MovesCheck_b0 (nf : Nat) (l2 : List (Int × Int × Unit) → Int → Option (Int × Unit)) (regs : Int) (l' : List (Int × Int × Unit)) (g0 : Int → Option (Int × Unit)) (t22 : Int) : Option (Int × Unit) :=
  bif decide (t22 < (↑l'.length : Int)) then
    bif inb t22 l'.length then
      Option.bind (ref_Inside_f nf regs ([(l'.getD t22.toNat (0, 0, ())).fst, (l'.getD t22.toNat (0, 0, ())).snd.fst])) fun r =>
      bif !r.fst then
        some ((2, ()))
      else
        g0 (IntKind.i64.wrap (t22 + 1))
    else
      none
  else
    l2 l' 0
def ref_MovesCheck_b2 (nf : Nat) (l4 : List (Int × Int × Unit) → Int → Int → Option (Int × Unit)) (l' : List (Int × Int × Unit)) (g2 : Int → Option (Int × Unit)) (i : Int) : Option (Int × Unit) :=
  bif decide (i < (↑l'.length : Int)) then
    l4 l' i 0
  else
    some ((0, ()))
def ref_MovesCheck_b4 (nf : Nat) (l' : List (Int × Int × Unit)) (i : Int) (g2 : Int → Option (Int × Unit)) (g4 : Int → Option (Int × Unit)) (j : Int) : Option (Int × Unit) :=
  bif decide (j < i) then
    bif inb i l'.length then
      bif inb j l'.length then
        bif (l'.getD i.toNat (0, 0, ())).fst == (l'.getD j.toNat (0, 0, ())).fst then
          some ((3, ()))
        else
          g4 (IntKind.i64.wrap (j + 1))
      else
        none
    else
      none
  else
    g2 (IntKind.i64.wrap (i + 1))
def ref_MovesCheck_p (nf : Nat) (l0 : Int → List (Int × Int × Unit) → Int → Option (Int × Unit)) (regs : Int) (l' : List (Int × Int × Unit)) : Option (Int × Unit) :=
  bif decide (regs < 1) then
    some ((1, ()))
  else
    bif decide (regs > 8) then
      some ((1, ()))
    else
      bif decide ((↑l'.length : Int) > 8) then
        some ((1, ()))
      else
        l0 regs l' 0
def ref_MovesCheck_l4 (nf : Nat) (l' : List (Int × Int × Unit)) (i : Int) (g2 : Int → Option (Int × Unit)) : Nat → Int → Option (Int × Unit)
  | 0, _ => none
  | fu + 1, j => ref_MovesCheck_b4 nf  l' i g2 (ref_MovesCheck_l4 nf l' i g2 fu) j
def ref_MovesCheck_l2 (nf : Nat) (l' : List (Int × Int × Unit)) : Nat → Int → Option (Int × Unit)
  | 0, _ => none
  | fu + 1, i => ref_MovesCheck_b2 nf (fun _ p1 v0 => ref_MovesCheck_l4 nf l' p1 (fun i => ref_MovesCheck_l2 nf l'  fu i) nf v0) l'  (ref_MovesCheck_l2 nf l'  fu) i
def ref_MovesCheck_l0 (nf : Nat) (regs : Int) (l' : List (Int × Int × Unit)) : Nat → Int → Option (Int × Unit)
  | 0, _ => none
  | fu + 1, t22 => ref_MovesCheck_b0 nf (fun _ v0 => ref_MovesCheck_l2 nf l'  nf v0) regs l'  (ref_MovesCheck_l0 nf regs l'  fu) t22
def ref_MovesCheck_f (nf : Nat) (regs : Int) (l' : List (Int × Int × Unit)) : Option (Int × Unit) := ref_MovesCheck_p nf (fun p0 p1 v0 => ref_MovesCheck_l0 nf p0 p1 nf v0) regs l'
noncomputable def ref_MovesCheck_L0 (nf : Nat) : LC (Int × Unit) := theL (findL tab (ref_MovesCheck_phi nf) (fun _ F => iter nf F) ref_MovesCheck_keep 0 0 (codeOf Try.f22) (fin tab [(Ty.int IntKind.i64, Md.bor false true)] (resL ([]) Try.f22)) (fun _ _ => none) (fin tab [(Ty.int IntKind.i64, Md.bor false true)] (resL ([]) Try.f22)))
def ref_MovesCheck_m0 (regs : Int) (l' : List (Int × Int × Unit)) (t22 : Int) : St := ⟨fresh, [(0, AV.v (Ty.int IntKind.i64) (Md.bor false true) regs), (1, AV.v ((Ty.int IntKind.i64).pair ((Ty.int IntKind.i64).pair Ty.unit)).sl (Md.bor true false) l'), (20, AV.v ((Ty.int IntKind.i64).pair ((Ty.int IntKind.i64).pair Ty.unit)).sl (Md.bor true false) l'), (21, AV.v (Ty.int IntKind.i64) (Md.bor false true) (↑l'.length : Int)), (22, AV.v (Ty.int IntKind.i64) (Md.bor false true) t22)]⟩
noncomputable def ref_MovesCheck_L2 (nf : Nat) : LC (Int × Unit) := theL (findL tab (ref_MovesCheck_phi nf) (fun _ F => iter nf F) ref_MovesCheck_keep 2 0 (codeOf Try.f22) (fin tab [(Ty.int IntKind.i64, Md.bor false true)] (resL ([]) Try.f22)) (fun _ _ => none) (fin tab [(Ty.int IntKind.i64, Md.bor false true)] (resL ([]) Try.f22)))
def ref_MovesCheck_m2 (l' : List (Int × Int × Unit)) (i : Int) : St := ⟨fresh, [(1, AV.v ((Ty.int IntKind.i64).pair ((Ty.int IntKind.i64).pair Ty.unit)).sl (Md.bor true false) l'), (7, AV.v (Ty.int IntKind.i64) (Md.bor false true) i)]⟩
noncomputable def ref_MovesCheck_L4 (nf : Nat) (G2 : St → Option (Int × Unit)) : LC (Int × Unit) := theL (findL tab (ref_MovesCheck_phi nf) (fun _ F => iter nf F) ref_MovesCheck_keep 4 2 (ref_MovesCheck_L2 nf ).c (fun st => norm (ref_MovesCheck_keep 2) st G2) (ref_MovesCheck_L2 nf ).Kx (ref_MovesCheck_L2 nf ).Kr)
def ref_MovesCheck_m4 (l' : List (Int × Int × Unit)) (i : Int) (j : Int) : St := ⟨fresh, [(1, AV.v ((Ty.int IntKind.i64).pair ((Ty.int IntKind.i64).pair Ty.unit)).sl (Md.bor true false) l'), (7, AV.v (Ty.int IntKind.i64) (Md.bor false true) i), (8, AV.v (Ty.int IntKind.i64) (Md.bor false true) j)]⟩
theorem ref_MovesCheck_h4 (nf : Nat) (G2 : St → Option (Int × Unit)) (l' : List (Int × Int × Unit)) (i : Int) (fu : Nat) (j : Int) : iter (fu + 1) (LC.F tab (ref_MovesCheck_phi nf) (fun _ F => iter nf F) ref_MovesCheck_keep 4 (ref_MovesCheck_L4 nf G2)) (ref_MovesCheck_m4 l' i j) = ref_MovesCheck_b4 nf  l' i (fun i => G2 (ref_MovesCheck_m2 l' i)) (fun j => iter fu (LC.F tab (ref_MovesCheck_phi nf) (fun _ F => iter nf F) ref_MovesCheck_keep 4 (ref_MovesCheck_L4 nf G2)) (ref_MovesCheck_m4 l' i j)) j := by kernel_rfl
theorem ref_MovesCheck_e4 (nf : Nat) (G2 : St → Option (Int × Unit)) (l' : List (Int × Int × Unit)) (i : Int) : ∀ (fu : Nat) (j : Int), iter fu (LC.F tab (ref_MovesCheck_phi nf) (fun _ F => iter nf F) ref_MovesCheck_keep 4 (ref_MovesCheck_L4 nf G2)) (ref_MovesCheck_m4 l' i j) = ref_MovesCheck_l4 nf l' i (fun i => G2 (ref_MovesCheck_m2 l' i)) fu j := by
  intro fu
  induction fu with
  | zero => intros; rfl
  | succ fu ih =>
    intro j
    rw [ref_MovesCheck_h4 nf G2 l' i fu j]
    simp only [ih]
    rfl
theorem ref_MovesCheck_h2 (nf : Nat)  (l' : List (Int × Int × Unit)) (fu : Nat) (i : Int) : iter (fu + 1) (LC.F tab (ref_MovesCheck_phi nf) (fun _ F => iter nf F) ref_MovesCheck_keep 2 (ref_MovesCheck_L2 nf )) (ref_MovesCheck_m2 l' i) = ref_MovesCheck_b2 nf (fun _ p1 v0 => iter nf (LC.F tab (ref_MovesCheck_phi nf) (fun _ F => iter nf F) ref_MovesCheck_keep 4 (ref_MovesCheck_L4 nf (iter fu (LC.F tab (ref_MovesCheck_phi nf) (fun _ F => iter nf F) ref_MovesCheck_keep 2 (ref_MovesCheck_L2 nf ))))) (ref_MovesCheck_m4 l' p1 v0)) l'  (fun i => iter fu (LC.F tab (ref_MovesCheck_phi nf) (fun _ F => iter nf F) ref_MovesCheck_keep 2 (ref_MovesCheck_L2 nf )) (ref_MovesCheck_m2 l' i)) i := by kernel_rfl
theorem ref_MovesCheck_e2 (nf : Nat)  (l' : List (Int × Int × Unit)) : ∀ (fu : Nat) (i : Int), iter fu (LC.F tab (ref_MovesCheck_phi nf) (fun _ F => iter nf F) ref_MovesCheck_keep 2 (ref_MovesCheck_L2 nf )) (ref_MovesCheck_m2 l' i) = ref_MovesCheck_l2 nf l'  fu i := by
  intro fu
  induction fu with
  | zero => intros; rfl
  | succ fu ih =>
    intro i
    rw [ref_MovesCheck_h2 nf  l' fu i]
    simp only [ih, ref_MovesCheck_e4]
    rfl
theorem ref_MovesCheck_h0 (nf : Nat)  (regs : Int) (l' : List (Int × Int × Unit)) (fu : Nat) (t22 : Int) : iter (fu + 1) (LC.F tab (ref_MovesCheck_phi nf) (fun _ F => iter nf F) ref_MovesCheck_keep 0 (ref_MovesCheck_L0 nf )) (ref_MovesCheck_m0 regs l' t22) = ref_MovesCheck_b0 nf (fun _ v0 => iter nf (LC.F tab (ref_MovesCheck_phi nf) (fun _ F => iter nf F) ref_MovesCheck_keep 2 (ref_MovesCheck_L2 nf )) (ref_MovesCheck_m2 l' v0)) regs l'  (fun t22 => iter fu (LC.F tab (ref_MovesCheck_phi nf) (fun _ F => iter nf F) ref_MovesCheck_keep 0 (ref_MovesCheck_L0 nf )) (ref_MovesCheck_m0 regs l' t22)) t22 := by kernel_rfl
theorem ref_MovesCheck_e0 (nf : Nat)  (regs : Int) (l' : List (Int × Int × Unit)) : ∀ (fu : Nat) (t22 : Int), iter fu (LC.F tab (ref_MovesCheck_phi nf) (fun _ F => iter nf F) ref_MovesCheck_keep 0 (ref_MovesCheck_L0 nf )) (ref_MovesCheck_m0 regs l' t22) = ref_MovesCheck_l0 nf regs l'  fu t22 := by
  intro fu
  induction fu with
  | zero => intros; rfl
  | succ fu ih =>
    intro t22
    rw [ref_MovesCheck_h0 nf  regs l' fu t22]
    simp only [ih, ref_MovesCheck_e2]
    rfl
theorem ref_MovesCheck_eq (nf : Nat) (regs : Int) (l' : List (Int × Int × Unit)) : runF tab (ref_MovesCheck_phi nf) ref_MovesCheck_keep nf [PT.val (Ty.int IntKind.i64) (Md.bor true false), PT.val ((Ty.int IntKind.i64).pair ((Ty.int IntKind.i64).pair Ty.unit)).sl (Md.bor true false)] [(Ty.int IntKind.i64, Md.bor false true)] (resL ([]) Try.f22) (codeOf Try.f22) ⟨regs, l', ()⟩ = ref_MovesCheck_f nf regs l' := by
  have h : runF tab (ref_MovesCheck_phi nf) ref_MovesCheck_keep nf [PT.val (Ty.int IntKind.i64) (Md.bor true false), PT.val ((Ty.int IntKind.i64).pair ((Ty.int IntKind.i64).pair Ty.unit)).sl (Md.bor true false)] [(Ty.int IntKind.i64, Md.bor false true)] (resL ([]) Try.f22) (codeOf Try.f22) ⟨regs, l', ()⟩ = ref_MovesCheck_p nf (fun p0 p1 v0 => iter nf (LC.F tab (ref_MovesCheck_phi nf) (fun _ F => iter nf F) ref_MovesCheck_keep 0 (ref_MovesCheck_L0 nf)) (ref_MovesCheck_m0 p0 p1 v0)) regs l' := by kernel_rfl
  rw [h]
  simp only [ref_MovesCheck_e0]
  rfl
def ref_MovesCheck_F (nf : Nat) (x : denPs [.val (.int .i64) (.bor true false), .val (.sl (.pair (.int .i64) (.pair (.int .i64) (.unit)))) (.bor true false)]) : Option (denL [(.int .i64, .bor false true)]) := ref_MovesCheck_f nf x.1 x.2.1
def ref_MovesCheck_C (nf : Nat) : Contract := ⟨[.val (.int .i64) (.bor true false), .val (.sl (.pair (.int .i64) (.pair (.int .i64) (.unit)))) (.bor true false)], [(.int .i64, .bor false true)], ref_MovesCheck_F nf, []⟩
theorem ref_MovesCheck_ok : FnOK Try.prog 22 := ⟨Try.f22, codeOf Try.f22, Try.func22, by kernel_rfl, by kernel_rfl⟩
theorem ref_MovesCheck_holds (nf : Nat) : Contract.Holds Try.prog 22 (ref_MovesCheck_C nf) :=
  fn_holds (Φ := ref_MovesCheck_phi nf) (keep := ref_MovesCheck_keep) (n := nf) ⟨tabs.1, tabs.2, (ctx_cons ref_Inside_ok (ref_Inside_holds nf) ctx_nil), mixed, bk_ok bkls rfl⟩ (fn := Try.f22) ⟨Try.func22, by kernel_rfl, by kernel_rfl, by kernel_rfl⟩ (fun x => ref_MovesCheck_eq nf x.1 x.2.1)

/-! codemason codemasonref.MoveFrom -/
def ref_MoveFrom_phi (nf : Nat) : Nat → Option Contract := lookC []
def ref_MoveFrom_keep : Nat → List Nat := lookK [(0, [0, 1, 7, 8, 9])]
def ref_MoveFrom_b0 (nf : Nat) (l' : List (Int × Int × Unit)) (r : Int) (g0 : Int → Option (Int × Unit)) (t9 : Int) : Option (Int × Unit) :=
  bif decide (t9 < (↑l'.length : Int)) then
    bif inb t9 l'.length then
      bif (l'.getD t9.toNat (0, 0, ())).fst == r then
        some (((l'.getD t9.toNat (0, 0, ())).snd.fst, ()))
      else
        g0 (IntKind.i64.wrap (t9 + 1))
    else
      none
  else
    some ((r, ()))
def ref_MoveFrom_p (nf : Nat) (l0 : List (Int × Int × Unit) → Int → Int → Option (Int × Unit)) (l' : List (Int × Int × Unit)) (r : Int) : Option (Int × Unit) :=
  l0 l' r 0
def ref_MoveFrom_l0 (nf : Nat) (l' : List (Int × Int × Unit)) (r : Int) : Nat → Int → Option (Int × Unit)
  | 0, _ => none
  | fu + 1, t9 => ref_MoveFrom_b0 nf  l' r  (ref_MoveFrom_l0 nf l' r  fu) t9
def ref_MoveFrom_f (nf : Nat) (l' : List (Int × Int × Unit)) (r : Int) : Option (Int × Unit) := ref_MoveFrom_p nf (fun p0 p1 v0 => ref_MoveFrom_l0 nf p0 p1 nf v0) l' r
noncomputable def ref_MoveFrom_L0 (nf : Nat) : LC (Int × Unit) := theL (findL tab (ref_MoveFrom_phi nf) (fun _ F => iter nf F) ref_MoveFrom_keep 0 0 (codeOf Try.f26) (fin tab [(Ty.int IntKind.i64, Md.bor false true)] (resL ([]) Try.f26)) (fun _ _ => none) (fin tab [(Ty.int IntKind.i64, Md.bor false true)] (resL ([]) Try.f26)))
def ref_MoveFrom_m0 (l' : List (Int × Int × Unit)) (r : Int) (t9 : Int) : St := ⟨fresh, [(0, AV.v ((Ty.int IntKind.i64).pair ((Ty.int IntKind.i64).pair Ty.unit)).sl (Md.bor true false) l'), (1, AV.v (Ty.int IntKind.i64) (Md.bor false true) r), (7, AV.v ((Ty.int IntKind.i64).pair ((Ty.int IntKind.i64).pair Ty.unit)).sl (Md.bor true false) l'), (8, AV.v (Ty.int IntKind.i64) (Md.bor false true) (↑l'.length : Int)), (9, AV.v (Ty.int IntKind.i64) (Md.bor false true) t9)]⟩
theorem ref_MoveFrom_h0 (nf : Nat)  (l' : List (Int × Int × Unit)) (r : Int) (fu : Nat) (t9 : Int) : iter (fu + 1) (LC.F tab (ref_MoveFrom_phi nf) (fun _ F => iter nf F) ref_MoveFrom_keep 0 (ref_MoveFrom_L0 nf )) (ref_MoveFrom_m0 l' r t9) = ref_MoveFrom_b0 nf  l' r  (fun t9 => iter fu (LC.F tab (ref_MoveFrom_phi nf) (fun _ F => iter nf F) ref_MoveFrom_keep 0 (ref_MoveFrom_L0 nf )) (ref_MoveFrom_m0 l' r t9)) t9 := by kernel_rfl
theorem ref_MoveFrom_e0 (nf : Nat)  (l' : List (Int × Int × Unit)) (r : Int) : ∀ (fu : Nat) (t9 : Int), iter fu (LC.F tab (ref_MoveFrom_phi nf) (fun _ F => iter nf F) ref_MoveFrom_keep 0 (ref_MoveFrom_L0 nf )) (ref_MoveFrom_m0 l' r t9) = ref_MoveFrom_l0 nf l' r  fu t9 := by
  intro fu
  induction fu with
  | zero => intros; rfl
  | succ fu ih =>
    intro t9
    rw [ref_MoveFrom_h0 nf  l' r fu t9]
    simp only [ih]
    rfl
theorem ref_MoveFrom_eq (nf : Nat) (l' : List (Int × Int × Unit)) (r : Int) : runF tab (ref_MoveFrom_phi nf) ref_MoveFrom_keep nf [PT.val ((Ty.int IntKind.i64).pair ((Ty.int IntKind.i64).pair Ty.unit)).sl (Md.bor true false), PT.val (Ty.int IntKind.i64) (Md.bor true false)] [(Ty.int IntKind.i64, Md.bor false true)] (resL ([]) Try.f26) (codeOf Try.f26) ⟨l', r, ()⟩ = ref_MoveFrom_f nf l' r := by
  have h : runF tab (ref_MoveFrom_phi nf) ref_MoveFrom_keep nf [PT.val ((Ty.int IntKind.i64).pair ((Ty.int IntKind.i64).pair Ty.unit)).sl (Md.bor true false), PT.val (Ty.int IntKind.i64) (Md.bor true false)] [(Ty.int IntKind.i64, Md.bor false true)] (resL ([]) Try.f26) (codeOf Try.f26) ⟨l', r, ()⟩ = ref_MoveFrom_p nf (fun p0 p1 v0 => iter nf (LC.F tab (ref_MoveFrom_phi nf) (fun _ F => iter nf F) ref_MoveFrom_keep 0 (ref_MoveFrom_L0 nf)) (ref_MoveFrom_m0 p0 p1 v0)) l' r := by kernel_rfl
  rw [h]
  simp only [ref_MoveFrom_e0]
  rfl
def ref_MoveFrom_F (nf : Nat) (x : denPs [.val (.sl (.pair (.int .i64) (.pair (.int .i64) (.unit)))) (.bor true false), .val (.int .i64) (.bor true false)]) : Option (denL [(.int .i64, .bor false true)]) := ref_MoveFrom_f nf x.1 x.2.1
def ref_MoveFrom_C (nf : Nat) : Contract := ⟨[.val (.sl (.pair (.int .i64) (.pair (.int .i64) (.unit)))) (.bor true false), .val (.int .i64) (.bor true false)], [(.int .i64, .bor false true)], ref_MoveFrom_F nf, []⟩
theorem ref_MoveFrom_ok : FnOK Try.prog 26 := ⟨Try.f26, codeOf Try.f26, Try.func26, by kernel_rfl, by kernel_rfl⟩
theorem ref_MoveFrom_holds (nf : Nat) : Contract.Holds Try.prog 26 (ref_MoveFrom_C nf) :=
  fn_holds (Φ := ref_MoveFrom_phi nf) (keep := ref_MoveFrom_keep) (n := nf) ⟨tabs.1, tabs.2, ctx_nil, mixed, bk_ok bkls rfl⟩ (fn := Try.f26) ⟨Try.func26, by kernel_rfl, by kernel_rfl, by kernel_rfl⟩ (fun x => ref_MoveFrom_eq nf x.1 x.2.1)

/-! codemason codemasonref.Circles -/
def ref_Circles_phi (nf : Nat) : Nat → Option Contract := lookC [(26, ref_MoveFrom_C nf)]
def ref_Circles_keep : Nat → List Nat := lookK [(6, [0, 1, 5, 6, 7, 11, 12, 13, 14]), (4, [0, 1, 5, 6, 7, 11, 12]), (2, [0, 1, 5, 6, 7, 8, 9, 10]), (0, [0, 1, 5, 6])]
def ref_Circles_b0 (nf : Nat) (l2 : Int → List (Int × Int × Unit) → Int → Int → Int × Unit → Int → Bool → Int → Option (Int × Unit)) (regs : Int) (l' : List (Int × Int × Unit)) (g0 : Int → Int → Option (Int × Unit)) (many : Int) (r : Int) : Option (Int × Unit) :=
  bif decide (r < regs) then
    Option.bind (ref_MoveFrom_f nf l' r) fun r2 =>
    l2 regs l' many r r2 r2.fst true 0
  else
    some ((many, ()))
def ref_Circles_b2 (nf : Nat) (l4 : Int → List (Int × Int × Unit) → Int → Int → Int → Bool → Int → Option (Int × Unit)) (regs : Int) (l' : List (Int × Int × Unit)) (many : Int) (r : Int) (r2 : Int × Unit) (g0 : Int → Int → Option (Int × Unit)) (g2 : Int → Bool → Int → Option (Int × Unit)) (at' : Int) (least : Bool) (k' : Int) : Option (Int × Unit) :=
  bif decide (k' < regs) then
    bif at' != r then
      bif least then
        Option.bind (ref_MoveFrom_f nf l' at') fun r3 =>
        g2 r3.fst (decide (at' > r)) (IntKind.i64.wrap (k' + 1))
      else
        Option.bind (ref_MoveFrom_f nf l' at') fun r4 =>
        g2 r4.fst false (IntKind.i64.wrap (k' + 1))
    else
      bif at' != r then
        g0 many (IntKind.i64.wrap (r + 1))
      else
        bif !least then
          g0 many (IntKind.i64.wrap (r + 1))
        else
          bif !r2.fst != r then
            g0 many (IntKind.i64.wrap (r + 1))
          else
            l4 regs l' many r r true 0
  else
    bif at' != r then
      g0 many (IntKind.i64.wrap (r + 1))
    else
      bif !least then
        g0 many (IntKind.i64.wrap (r + 1))
      else
        bif !r2.fst != r then
          g0 many (IntKind.i64.wrap (r + 1))
        else
          l4 regs l' many r r true 0
def ref_Circles_b4 (nf : Nat) (l6 : Int → List (Int × Int × Unit) → Int → Int → Int → Bool → Int → Int → Int → Option (Int × Unit)) (regs : Int) (l' : List (Int × Int × Unit)) (many : Int) (r : Int) (g0 : Int → Int → Option (Int × Unit)) (g4 : Int → Bool → Int → Option (Int × Unit)) (at'2 : Int) (ok : Bool) (k'2 : Int) : Option (Int × Unit) :=
  bif decide (k'2 < regs) then
    l6 regs l' many r at'2 ok k'2 0 0
  else
    bif ok then
      g0 (IntKind.i64.wrap (many + 1)) (IntKind.i64.wrap (r + 1))
    else
      g0 many (IntKind.i64.wrap (r + 1))
def ref_Circles_b6 (nf : Nat) (regs : Int) (l' : List (Int × Int × Unit)) (many : Int) (r : Int) (at'2 : Int) (ok : Bool) (k'2 : Int) (g4 : Int → Bool → Int → Option (Int × Unit)) (g0 : Int → Int → Option (Int × Unit)) (g6 : Int → Int → Option (Int × Unit)) (users : Int) (s : Int) : Option (Int × Unit) :=
  bif decide (s < regs) then
    Option.bind (ref_MoveFrom_f nf l' s) fun r5 =>
    bif r5.fst == at'2 then
      g6 (IntKind.i64.wrap (users + 1)) (IntKind.i64.wrap (s + 1))
    else
      g6 users (IntKind.i64.wrap (s + 1))
  else
    bif ok then
      Option.bind (ref_MoveFrom_f nf l' at'2) fun r6 =>
      g4 r6.fst (users == 1) (IntKind.i64.wrap (k'2 + 1))
    else
      Option.bind (ref_MoveFrom_f nf l' at'2) fun r7 =>
      g4 r7.fst false (IntKind.i64.wrap (k'2 + 1))
def ref_Circles_p (nf : Nat) (l0 : Int → List (Int × Int × Unit) → Int → Int → Option (Int × Unit)) (regs : Int) (l' : List (Int × Int × Unit)) : Option (Int × Unit) :=
  l0 regs l' 0 0
def ref_Circles_l6 (nf : Nat) (regs : Int) (l' : List (Int × Int × Unit)) (many : Int) (r : Int) (at'2 : Int) (ok : Bool) (k'2 : Int) (g4 : Int → Bool → Int → Option (Int × Unit)) (g0 : Int → Int → Option (Int × Unit)) : Nat → Int → Int → Option (Int × Unit)
  | 0, _, _ => none
  | fu + 1, users, s => ref_Circles_b6 nf  regs l' many r at'2 ok k'2 g4 g0 (ref_Circles_l6 nf regs l' many r at'2 ok k'2 g4 g0 fu) users s
def ref_Circles_l4 (nf : Nat) (regs : Int) (l' : List (Int × Int × Unit)) (many : Int) (r : Int) (g0 : Int → Int → Option (Int × Unit)) : Nat → Int → Bool → Int → Option (Int × Unit)
  | 0, _, _, _ => none
  | fu + 1, at'2, ok, k'2 => ref_Circles_b4 nf (fun _ _ _ _ p4 p5 p6 v0 v1 => ref_Circles_l6 nf regs l' many r p4 p5 p6 (fun at'2 ok k'2 => ref_Circles_l4 nf regs l' many r g0 fu at'2 ok k'2) g0 nf v0 v1) regs l' many r g0 (ref_Circles_l4 nf regs l' many r g0 fu) at'2 ok k'2
def ref_Circles_l2 (nf : Nat) (regs : Int) (l' : List (Int × Int × Unit)) (many : Int) (r : Int) (r2 : Int × Unit) (g0 : Int → Int → Option (Int × Unit)) : Nat → Int → Bool → Int → Option (Int × Unit)
  | 0, _, _, _ => none
  | fu + 1, at', least, k' => ref_Circles_b2 nf (fun _ _ _ _ v0 v1 v2 => ref_Circles_l4 nf regs l' many r g0 nf v0 v1 v2) regs l' many r r2 g0 (ref_Circles_l2 nf regs l' many r r2 g0 fu) at' least k'
def ref_Circles_l0 (nf : Nat) (regs : Int) (l' : List (Int × Int × Unit)) : Nat → Int → Int → Option (Int × Unit)
  | 0, _, _ => none
  | fu + 1, many, r => ref_Circles_b0 nf (fun _ _ p2 p3 p4 v0 v1 v2 => ref_Circles_l2 nf regs l' p2 p3 p4 (fun many r => ref_Circles_l0 nf regs l'  fu many r) nf v0 v1 v2) regs l'  (ref_Circles_l0 nf regs l'  fu) many r
def ref_Circles_f (nf : Nat) (regs : Int) (l' : List (Int × Int × Unit)) : Option (Int × Unit) := ref_Circles_p nf (fun p0 p1 v0 v1 => ref_Circles_l0 nf p0 p1 nf v0 v1) regs l'
noncomputable def ref_Circles_L0 (nf : Nat) : LC (Int × Unit) := theL (findL tab (ref_Circles_phi nf) (fun _ F => iter nf F) ref_Circles_keep 0 0 (codeOf Try.f23) (fin tab [(Ty.int IntKind.i64, Md.bor false true)] (resL ([]) Try.f23)) (fun _ _ => none) (fin tab [(Ty.int IntKind.i64, Md.bor false true)] (resL ([]) Try.f23)))
def ref_Circles_m0 (regs : Int) (l' : List (Int × Int × Unit)) (many : Int) (r : Int) : St := ⟨fresh, [(0, AV.v (Ty.int IntKind.i64) (Md.bor false true) regs), (1, AV.v ((Ty.int IntKind.i64).pair ((Ty.int IntKind.i64).pair Ty.unit)).sl (Md.bor true false) l'), (5, AV.v (Ty.int IntKind.i64) (Md.bor false true) many), (6, AV.v (Ty.int IntKind.i64) (Md.bor false true) r)]⟩
noncomputable def ref_Circles_L2 (nf : Nat) (G0 : St → Option (Int × Unit)) : LC (Int × Unit) := theL (findL tab (ref_Circles_phi nf) (fun _ F => iter nf F) ref_Circles_keep 2 0 (ref_Circles_L0 nf ).c (fun st => norm (ref_Circles_keep 0) st G0) (ref_Circles_L0 nf ).Kx (ref_Circles_L0 nf ).Kr)
def ref_Circles_m2 (regs : Int) (l' : List (Int × Int × Unit)) (many : Int) (r : Int) (r2 : Int × Unit) (at' : Int) (least : Bool) (k' : Int) : St := ⟨fresh, [(0, AV.v (Ty.int IntKind.i64) (Md.bor false true) regs), (1, AV.v ((Ty.int IntKind.i64).pair ((Ty.int IntKind.i64).pair Ty.unit)).sl (Md.bor true false) l'), (5, AV.v (Ty.int IntKind.i64) (Md.bor false true) many), (6, AV.v (Ty.int IntKind.i64) (Md.bor false true) r), (7, AV.v (Ty.int IntKind.i64) (Md.bor false true) at'), (8, AV.v Ty.bool (Md.bor false true) least), (9, AV.v Ty.bool (Md.bor false true) (r2.fst != r)), (10, AV.v (Ty.int IntKind.i64) (Md.bor false true) k')]⟩
noncomputable def ref_Circles_L4 (nf : Nat) (G0 : St → Option (Int × Unit)) : LC (Int × Unit) := theL (findL tab (ref_Circles_phi nf) (fun _ F => iter nf F) ref_Circles_keep 4 0 (ref_Circles_L0 nf ).c (fun st => norm (ref_Circles_keep 0) st G0) (ref_Circles_L0 nf ).Kx (ref_Circles_L0 nf ).Kr)
def ref_Circles_m4 (regs : Int) (l' : List (Int × Int × Unit)) (many : Int) (r : Int) (at'2 : Int) (ok : Bool) (k'2 : Int) : St := ⟨fresh, [(0, AV.v (Ty.int IntKind.i64) (Md.bor false true) regs), (1, AV.v ((Ty.int IntKind.i64).pair ((Ty.int IntKind.i64).pair Ty.unit)).sl (Md.bor true false) l'), (5, AV.v (Ty.int IntKind.i64) (Md.bor false true) many), (6, AV.v (Ty.int IntKind.i64) (Md.bor false true) r), (7, AV.v (Ty.int IntKind.i64) (Md.bor false true) at'2), (11, AV.v Ty.bool (Md.bor false true) ok), (12, AV.v (Ty.int IntKind.i64) (Md.bor false true) k'2)]⟩
noncomputable def ref_Circles_L6 (nf : Nat) (G0 : St → Option (Int × Unit)) (G4 : St → Option (Int × Unit)) : LC (Int × Unit) := theL (findL tab (ref_Circles_phi nf) (fun _ F => iter nf F) ref_Circles_keep 6 4 (ref_Circles_L4 nf G0).c (fun st => norm (ref_Circles_keep 4) st G4) (ref_Circles_L4 nf G0).Kx (ref_Circles_L4 nf G0).Kr)
def ref_Circles_m6 (regs : Int) (l' : List (Int × Int × Unit)) (many : Int) (r : Int) (at'2 : Int) (ok : Bool) (k'2 : Int) (users : Int) (s : Int) : St := ⟨fresh, [(0, AV.v (Ty.int IntKind.i64) (Md.bor false true) regs), (1, AV.v ((Ty.int IntKind.i64).pair ((Ty.int IntKind.i64).pair Ty.unit)).sl (Md.bor true false) l'), (5, AV.v (Ty.int IntKind.i64) (Md.bor false true) many), (6, AV.v (Ty.int IntKind.i64) (Md.bor false true) r), (7, AV.v (Ty.int IntKind.i64) (Md.bor false true) at'2), (11, AV.v Ty.bool (Md.bor false true) ok), (12, AV.v (Ty.int IntKind.i64) (Md.bor false true) k'2), (13, AV.v (Ty.int IntKind.i64) (Md.bor false true) users), (14, AV.v (Ty.int IntKind.i64) (Md.bor false true) s)]⟩
theorem ref_Circles_h6 (nf : Nat) (G0 : St → Option (Int × Unit)) (G4 : St → Option (Int × Unit)) (regs : Int) (l' : List (Int × Int × Unit)) (many : Int) (r : Int) (at'2 : Int) (ok : Bool) (k'2 : Int) (fu : Nat) (users : Int) (s : Int) : iter (fu + 1) (LC.F tab (ref_Circles_phi nf) (fun _ F => iter nf F) ref_Circles_keep 6 (ref_Circles_L6 nf G0 G4)) (ref_Circles_m6 regs l' many r at'2 ok k'2 users s) = ref_Circles_b6 nf  regs l' many r at'2 ok k'2 (fun at'2 ok k'2 => G4 (ref_Circles_m4 regs l' many r at'2 ok k'2)) (fun many r => G0 (ref_Circles_m0 regs l' many r)) (fun users s => iter fu (LC.F tab (ref_Circles_phi nf) (fun _ F => iter nf F) ref_Circles_keep 6 (ref_Circles_L6 nf G0 G4)) (ref_Circles_m6 regs l' many r at'2 ok k'2 users s)) users s := by kernel_rfl
theorem ref_Circles_e6 (nf : Nat) (G0 : St → Option (Int × Unit)) (G4 : St → Option (Int × Unit)) (regs : Int) (l' : List (Int × Int × Unit)) (many : Int) (r : Int) (at'2 : Int) (ok : Bool) (k'2 : Int) : ∀ (fu : Nat) (users : Int) (s : Int), iter fu (LC.F tab (ref_Circles_phi nf) (fun _ F => iter nf F) ref_Circles_keep 6 (ref_Circles_L6 nf G0 G4)) (ref_Circles_m6 regs l' many r at'2 ok k'2 users s) = ref_Circles_l6 nf regs l' many r at'2 ok k'2 (fun at'2 ok k'2 => G4 (ref_Circles_m4 regs l' many r at'2 ok k'2)) (fun many r => G0 (ref_Circles_m0 regs l' many r)) fu users s := by
  intro fu
  induction fu with
  | zero => intros; rfl
  | succ fu ih =>
    intro users s
    rw [ref_Circles_h6 nf G0 G4 regs l' many r at'2 ok k'2 fu users s]
    simp only [ih]
    rfl
theorem ref_Circles_h4 (nf : Nat) (G0 : St → Option (Int × Unit)) (regs : Int) (l' : List (Int × Int × Unit)) (many : Int) (r : Int) (fu : Nat) (at'2 : Int) (ok : Bool) (k'2 : Int) : iter (fu + 1) (LC.F tab (ref_Circles_phi nf) (fun _ F => iter nf F) ref_Circles_keep 4 (ref_Circles_L4 nf G0)) (ref_Circles_m4 regs l' many r at'2 ok k'2) = ref_Circles_b4 nf (fun _ _ _ _ p4 p5 p6 v0 v1 => iter nf (LC.F tab (ref_Circles_phi nf) (fun _ F => iter nf F) ref_Circles_keep 6 (ref_Circles_L6 nf G0 (iter fu (LC.F tab (ref_Circles_phi nf) (fun _ F => iter nf F) ref_Circles_keep 4 (ref_Circles_L4 nf G0))))) (ref_Circles_m6 regs l' many r p4 p5 p6 v0 v1)) regs l' many r (fun many r => G0 (ref_Circles_m0 regs l' many r)) (fun at'2 ok k'2 => iter fu (LC.F tab (ref_Circles_phi nf) (fun _ F => iter nf F) ref_Circles_keep 4 (ref_Circles_L4 nf G0)) (ref_Circles_m4 regs l' many r at'2 ok k'2)) at'2 ok k'2 := by kernel_rfl
theorem ref_Circles_e4 (nf : Nat) (G0 : St → Option (Int × Unit)) (regs : Int) (l' : List (Int × Int × Unit)) (many : Int) (r : Int) : ∀ (fu : Nat) (at'2 : Int) (ok : Bool) (k'2 : Int), iter fu (LC.F tab (ref_Circles_phi nf) (fun _ F => iter nf F) ref_Circles_keep 4 (ref_Circles_L4 nf G0)) (ref_Circles_m4 regs l' many r at'2 ok k'2) = ref_Circles_l4 nf regs l' many r (fun many r => G0 (ref_Circles_m0 regs l' many r)) fu at'2 ok k'2 := by
  intro fu
  induction fu with
  | zero => intros; rfl
  | succ fu ih =>
    intro at'2 ok k'2
    rw [ref_Circles_h4 nf G0 regs l' many r fu at'2 ok k'2]
    simp only [ih, ref_Circles_e6]
    rfl
theorem ref_Circles_h2 (nf : Nat) (G0 : St → Option (Int × Unit)) (regs : Int) (l' : List (Int × Int × Unit)) (many : Int) (r : Int) (r2 : Int × Unit) (fu : Nat) (at' : Int) (least : Bool) (k' : Int) : iter (fu + 1) (LC.F tab (ref_Circles_phi nf) (fun _ F => iter nf F) ref_Circles_keep 2 (ref_Circles_L2 nf G0)) (ref_Circles_m2 regs l' many r r2 at' least k') = ref_Circles_b2 nf (fun _ _ _ _ v0 v1 v2 => iter nf (LC.F tab (ref_Circles_phi nf) (fun _ F => iter nf F) ref_Circles_keep 4 (ref_Circles_L4 nf G0)) (ref_Circles_m4 regs l' many r v0 v1 v2)) regs l' many r r2 (fun many r => G0 (ref_Circles_m0 regs l' many r)) (fun at' least k' => iter fu (LC.F tab (ref_Circles_phi nf) (fun _ F => iter nf F) ref_Circles_keep 2 (ref_Circles_L2 nf G0)) (ref_Circles_m2 regs l' many r r2 at' least k')) at' least k' := by kernel_rfl
theorem ref_Circles_e2 (nf : Nat) (G0 : St → Option (Int × Unit)) (regs : Int) (l' : List (Int × Int × Unit)) (many : Int) (r : Int) (r2 : Int × Unit) : ∀ (fu : Nat) (at' : Int) (least : Bool) (k' : Int), iter fu (LC.F tab (ref_Circles_phi nf) (fun _ F => iter nf F) ref_Circles_keep 2 (ref_Circles_L2 nf G0)) (ref_Circles_m2 regs l' many r r2 at' least k') = ref_Circles_l2 nf regs l' many r r2 (fun many r => G0 (ref_Circles_m0 regs l' many r)) fu at' least k' := by
  intro fu
  induction fu with
  | zero => intros; rfl
  | succ fu ih =>
    intro at' least k'
    rw [ref_Circles_h2 nf G0 regs l' many r r2 fu at' least k']
    simp only [ih, ref_Circles_e4]
    rfl
theorem ref_Circles_h0 (nf : Nat)  (regs : Int) (l' : List (Int × Int × Unit)) (fu : Nat) (many : Int) (r : Int) : iter (fu + 1) (LC.F tab (ref_Circles_phi nf) (fun _ F => iter nf F) ref_Circles_keep 0 (ref_Circles_L0 nf )) (ref_Circles_m0 regs l' many r) = ref_Circles_b0 nf (fun _ _ p2 p3 p4 v0 v1 v2 => iter nf (LC.F tab (ref_Circles_phi nf) (fun _ F => iter nf F) ref_Circles_keep 2 (ref_Circles_L2 nf (iter fu (LC.F tab (ref_Circles_phi nf) (fun _ F => iter nf F) ref_Circles_keep 0 (ref_Circles_L0 nf ))))) (ref_Circles_m2 regs l' p2 p3 p4 v0 v1 v2)) regs l'  (fun many r => iter fu (LC.F tab (ref_Circles_phi nf) (fun _ F => iter nf F) ref_Circles_keep 0 (ref_Circles_L0 nf )) (ref_Circles_m0 regs l' many r)) many r := by kernel_rfl
theorem ref_Circles_e0 (nf : Nat)  (regs : Int) (l' : List (Int × Int × Unit)) : ∀ (fu : Nat) (many : Int) (r : Int), iter fu (LC.F tab (ref_Circles_phi nf) (fun _ F => iter nf F) ref_Circles_keep 0 (ref_Circles_L0 nf )) (ref_Circles_m0 regs l' many r) = ref_Circles_l0 nf regs l'  fu many r := by
  intro fu
  induction fu with
  | zero => intros; rfl
  | succ fu ih =>
    intro many r
    rw [ref_Circles_h0 nf  regs l' fu many r]
    simp only [ih, ref_Circles_e2]
    rfl
theorem ref_Circles_eq (nf : Nat) (regs : Int) (l' : List (Int × Int × Unit)) : runF tab (ref_Circles_phi nf) ref_Circles_keep nf [PT.val (Ty.int IntKind.i64) (Md.bor true false), PT.val ((Ty.int IntKind.i64).pair ((Ty.int IntKind.i64).pair Ty.unit)).sl (Md.bor true false)] [(Ty.int IntKind.i64, Md.bor false true)] (resL ([]) Try.f23) (codeOf Try.f23) ⟨regs, l', ()⟩ = ref_Circles_f nf regs l' := by
  have h : runF tab (ref_Circles_phi nf) ref_Circles_keep nf [PT.val (Ty.int IntKind.i64) (Md.bor true false), PT.val ((Ty.int IntKind.i64).pair ((Ty.int IntKind.i64).pair Ty.unit)).sl (Md.bor true false)] [(Ty.int IntKind.i64, Md.bor false true)] (resL ([]) Try.f23) (codeOf Try.f23) ⟨regs, l', ()⟩ = ref_Circles_p nf (fun p0 p1 v0 v1 => iter nf (LC.F tab (ref_Circles_phi nf) (fun _ F => iter nf F) ref_Circles_keep 0 (ref_Circles_L0 nf)) (ref_Circles_m0 p0 p1 v0 v1)) regs l' := by kernel_rfl
  rw [h]
  simp only [ref_Circles_e0]
  rfl
def ref_Circles_F (nf : Nat) (x : denPs [.val (.int .i64) (.bor true false), .val (.sl (.pair (.int .i64) (.pair (.int .i64) (.unit)))) (.bor true false)]) : Option (denL [(.int .i64, .bor false true)]) := ref_Circles_f nf x.1 x.2.1
def ref_Circles_C (nf : Nat) : Contract := ⟨[.val (.int .i64) (.bor true false), .val (.sl (.pair (.int .i64) (.pair (.int .i64) (.unit)))) (.bor true false)], [(.int .i64, .bor false true)], ref_Circles_F nf, []⟩
theorem ref_Circles_ok : FnOK Try.prog 23 := ⟨Try.f23, codeOf Try.f23, Try.func23, by kernel_rfl, by kernel_rfl⟩
theorem ref_Circles_holds (nf : Nat) : Contract.Holds Try.prog 23 (ref_Circles_C nf) :=
  fn_holds (Φ := ref_Circles_phi nf) (keep := ref_Circles_keep) (n := nf) ⟨tabs.1, tabs.2, (ctx_cons ref_MoveFrom_ok (ref_MoveFrom_holds nf) ctx_nil), mixed, bk_ok bkls rfl⟩ (fn := Try.f23) ⟨Try.func23, by kernel_rfl, by kernel_rfl, by kernel_rfl⟩ (fun x => ref_Circles_eq nf x.1 x.2.1)

/-! codemason codemasonref.Moved -/
def ref_Moved_phi (nf : Nat) : Nat → Option Contract := lookC []
def ref_Moved_keep : Nat → List Nat := lookK [(2, [1, 5, 11, 21, 22, 23]), (0, [0, 1, 5, 6, 11])]
def ref_Moved_b0 (nf : Nat) (l2 : List (Int × Int × Unit) → List Int → Int → Option (List Int × Unit)) (regs : Int) (l' : List (Int × Int × Unit)) (g0 : List Int → Int → Option (List Int × Unit)) (v : List Int) (i : Int) : Option (List Int × Unit) :=
  bif decide (i ≤ regs) then
    bif inb i v.length then
      g0 (v.set i.toNat i) (IntKind.i64.wrap (i + 1))
    else
      none
  else
    l2 l' v 0
def ref_Moved_b2 (nf : Nat) (l' : List (Int × Int × Unit)) (g2 : List Int → Int → Option (List Int × Unit)) (v2 : List Int) (t23 : Int) : Option (List Int × Unit) :=
  bif decide (t23 < (↑l'.length : Int)) then
    bif inb t23 l'.length then
      bif inb (l'.getD t23.toNat (0, 0, ())).snd.fst v2.length then
        bif inb (l'.getD t23.toNat (0, 0, ())).fst v2.length then
          g2 (v2.set (Int.toNat (l'.getD t23.toNat (0, 0, ())).fst) (v2.getD (Int.toNat (l'.getD t23.toNat (0, 0, ())).snd.fst) 0)) (IntKind.i64.wrap (t23 + 1))
        else
          none
      else
        none
    else
      none
  else
    some ((v2, ()))
def ref_Moved_p (nf : Nat) (l0 : Int → List (Int × Int × Unit) → List Int → Int → Option (List Int × Unit)) (regs : Int) (l' : List (Int × Int × Unit)) : Option (List Int × Unit) :=
  bif decide (0 ≤ IntKind.i64.wrap (regs + 1)) && decide (IntKind.i64.wrap (regs + 1) ≤ IntKind.i64.wrap (regs + 1)) && decide (IntKind.i64.wrap (regs + 1) ≤ (↑lim : Int)) then
    l0 regs l' (List.replicate (IntKind.i64.wrap (regs + 1)).toNat 0) 0
  else
    none
def ref_Moved_l2 (nf : Nat) (l' : List (Int × Int × Unit)) : Nat → List Int → Int → Option (List Int × Unit)
  | 0, _, _ => none
  | fu + 1, v2, t23 => ref_Moved_b2 nf  l'  (ref_Moved_l2 nf l'  fu) v2 t23
def ref_Moved_l0 (nf : Nat) (regs : Int) (l' : List (Int × Int × Unit)) : Nat → List Int → Int → Option (List Int × Unit)
  | 0, _, _ => none
  | fu + 1, v, i => ref_Moved_b0 nf (fun _ v0 v1 => ref_Moved_l2 nf l'  nf v0 v1) regs l'  (ref_Moved_l0 nf regs l'  fu) v i
def ref_Moved_f (nf : Nat) (regs : Int) (l' : List (Int × Int × Unit)) : Option (List Int × Unit) := ref_Moved_p nf (fun p0 p1 v0 v1 => ref_Moved_l0 nf p0 p1 nf v0 v1) regs l'
noncomputable def ref_Moved_L0 (nf : Nat) : LC (List Int × Unit) := theL (findL tab (ref_Moved_phi nf) (fun _ F => iter nf F) ref_Moved_keep 0 0 (codeOf Try.f25) (fin tab [((Ty.int IntKind.i64).sl, Md.own false (Md.bor false false))] (resL ([]) Try.f25)) (fun _ _ => none) (fin tab [((Ty.int IntKind.i64).sl, Md.own false (Md.bor false false))] (resL ([]) Try.f25)))
def ref_Moved_m0 (regs : Int) (l' : List (Int × Int × Unit)) (v : List Int) (i : Int) : St := ⟨fresh, [(0, AV.v (Ty.int IntKind.i64) (Md.bor false true) regs), (1, AV.v ((Ty.int IntKind.i64).pair ((Ty.int IntKind.i64).pair Ty.unit)).sl (Md.bor true false) l'), (5, AV.ow 500005 (Ty.int IntKind.i64).sl (Md.own false (Md.bor false false)) v), (6, AV.v (Ty.int IntKind.i64) (Md.bor false true) i), (11, AV.dead)]⟩
noncomputable def ref_Moved_L2 (nf : Nat) : LC (List Int × Unit) := theL (findL tab (ref_Moved_phi nf) (fun _ F => iter nf F) ref_Moved_keep 2 0 (codeOf Try.f25) (fin tab [((Ty.int IntKind.i64).sl, Md.own false (Md.bor false false))] (resL ([]) Try.f25)) (fun _ _ => none) (fin tab [((Ty.int IntKind.i64).sl, Md.own false (Md.bor false false))] (resL ([]) Try.f25)))
def ref_Moved_m2 (l' : List (Int × Int × Unit)) (v2 : List Int) (t23 : Int) : St := ⟨fresh, [(1, AV.v ((Ty.int IntKind.i64).pair ((Ty.int IntKind.i64).pair Ty.unit)).sl (Md.bor true false) l'), (5, AV.ow 500005 (Ty.int IntKind.i64).sl (Md.own false (Md.bor false false)) v2), (11, AV.dead), (21, AV.v ((Ty.int IntKind.i64).pair ((Ty.int IntKind.i64).pair Ty.unit)).sl (Md.bor true false) l'), (22, AV.v (Ty.int IntKind.i64) (Md.bor false true) (↑l'.length : Int)), (23, AV.v (Ty.int IntKind.i64) (Md.bor false true) t23)]⟩
theorem ref_Moved_h2 (nf : Nat)  (l' : List (Int × Int × Unit)) (fu : Nat) (v2 : List Int) (t23 : Int) : iter (fu + 1) (LC.F tab (ref_Moved_phi nf) (fun _ F => iter nf F) ref_Moved_keep 2 (ref_Moved_L2 nf )) (ref_Moved_m2 l' v2 t23) = ref_Moved_b2 nf  l'  (fun v2 t23 => iter fu (LC.F tab (ref_Moved_phi nf) (fun _ F => iter nf F) ref_Moved_keep 2 (ref_Moved_L2 nf )) (ref_Moved_m2 l' v2 t23)) v2 t23 := by kernel_rfl
theorem ref_Moved_e2 (nf : Nat)  (l' : List (Int × Int × Unit)) : ∀ (fu : Nat) (v2 : List Int) (t23 : Int), iter fu (LC.F tab (ref_Moved_phi nf) (fun _ F => iter nf F) ref_Moved_keep 2 (ref_Moved_L2 nf )) (ref_Moved_m2 l' v2 t23) = ref_Moved_l2 nf l'  fu v2 t23 := by
  intro fu
  induction fu with
  | zero => intros; rfl
  | succ fu ih =>
    intro v2 t23
    rw [ref_Moved_h2 nf  l' fu v2 t23]
    simp only [ih]
    rfl
theorem ref_Moved_h0 (nf : Nat)  (regs : Int) (l' : List (Int × Int × Unit)) (fu : Nat) (v : List Int) (i : Int) : iter (fu + 1) (LC.F tab (ref_Moved_phi nf) (fun _ F => iter nf F) ref_Moved_keep 0 (ref_Moved_L0 nf )) (ref_Moved_m0 regs l' v i) = ref_Moved_b0 nf (fun _ v0 v1 => iter nf (LC.F tab (ref_Moved_phi nf) (fun _ F => iter nf F) ref_Moved_keep 2 (ref_Moved_L2 nf )) (ref_Moved_m2 l' v0 v1)) regs l'  (fun v i => iter fu (LC.F tab (ref_Moved_phi nf) (fun _ F => iter nf F) ref_Moved_keep 0 (ref_Moved_L0 nf )) (ref_Moved_m0 regs l' v i)) v i := by kernel_rfl
theorem ref_Moved_e0 (nf : Nat)  (regs : Int) (l' : List (Int × Int × Unit)) : ∀ (fu : Nat) (v : List Int) (i : Int), iter fu (LC.F tab (ref_Moved_phi nf) (fun _ F => iter nf F) ref_Moved_keep 0 (ref_Moved_L0 nf )) (ref_Moved_m0 regs l' v i) = ref_Moved_l0 nf regs l'  fu v i := by
  intro fu
  induction fu with
  | zero => intros; rfl
  | succ fu ih =>
    intro v i
    rw [ref_Moved_h0 nf  regs l' fu v i]
    simp only [ih, ref_Moved_e2]
    rfl
theorem ref_Moved_eq (nf : Nat) (regs : Int) (l' : List (Int × Int × Unit)) : runF tab (ref_Moved_phi nf) ref_Moved_keep nf [PT.val (Ty.int IntKind.i64) (Md.bor true false), PT.val ((Ty.int IntKind.i64).pair ((Ty.int IntKind.i64).pair Ty.unit)).sl (Md.bor true false)] [((Ty.int IntKind.i64).sl, Md.own false (Md.bor false false))] (resL ([]) Try.f25) (codeOf Try.f25) ⟨regs, l', ()⟩ = ref_Moved_f nf regs l' := by
  have h : runF tab (ref_Moved_phi nf) ref_Moved_keep nf [PT.val (Ty.int IntKind.i64) (Md.bor true false), PT.val ((Ty.int IntKind.i64).pair ((Ty.int IntKind.i64).pair Ty.unit)).sl (Md.bor true false)] [((Ty.int IntKind.i64).sl, Md.own false (Md.bor false false))] (resL ([]) Try.f25) (codeOf Try.f25) ⟨regs, l', ()⟩ = ref_Moved_p nf (fun p0 p1 v0 v1 => iter nf (LC.F tab (ref_Moved_phi nf) (fun _ F => iter nf F) ref_Moved_keep 0 (ref_Moved_L0 nf)) (ref_Moved_m0 p0 p1 v0 v1)) regs l' := by kernel_rfl
  rw [h]
  simp only [ref_Moved_e0]
  rfl
def ref_Moved_F (nf : Nat) (x : denPs [.val (.int .i64) (.bor true false), .val (.sl (.pair (.int .i64) (.pair (.int .i64) (.unit)))) (.bor true false)]) : Option (denL [(.sl (.int .i64), .own false (.bor false false))]) := ref_Moved_f nf x.1 x.2.1
def ref_Moved_C (nf : Nat) : Contract := ⟨[.val (.int .i64) (.bor true false), .val (.sl (.pair (.int .i64) (.pair (.int .i64) (.unit)))) (.bor true false)], [(.sl (.int .i64), .own false (.bor false false))], ref_Moved_F nf, []⟩
theorem ref_Moved_ok : FnOK Try.prog 25 := ⟨Try.f25, codeOf Try.f25, Try.func25, by kernel_rfl, by kernel_rfl⟩
theorem ref_Moved_holds (nf : Nat) : Contract.Holds Try.prog 25 (ref_Moved_C nf) :=
  fn_holds (Φ := ref_Moved_phi nf) (keep := ref_Moved_keep) (n := nf) ⟨tabs.1, tabs.2, ctx_nil, mixed, bk_ok bkls rfl⟩ (fn := Try.f25) ⟨Try.func25, by kernel_rfl, by kernel_rfl, by kernel_rfl⟩ (fun x => ref_Moved_eq nf x.1 x.2.1)

/-! codemason codemasonlaw.SwapOrders -/
def law_SwapOrders_phi (nf : Nat) : Nat → Option Contract := lookC [(21, swap_Order_C nf), (22, ref_MovesCheck_C nf), (23, ref_Circles_C nf), (24, ref_Inside_C nf), (25, ref_Moved_C nf), (26, ref_MoveFrom_C nf)]
def law_SwapOrders_keep : Nat → List Nat := lookK [(4, [0, 1, 5, 6, 8, 13, 14, 15, 18, 19, 69]), (2, [0, 1, 5, 6, 8, 15, 18, 19, 51, 52, 53]), (0, [0, 1, 5, 6, 8, 15, 18, 19, 37, 38, 39])]
def law_SwapOrders_b0 (nf : Nat) (l2 : Int → List (Int × Int × Unit) → List (Int × Int × Unit) × Int × Unit → Int → List (Int × Int × Unit) → List (Int × Int × Unit) → Int → Option (Bool × Unit)) (regs : Int) (l' : List (Int × Int × Unit)) (r : List (Int × Int × Unit) × Int × Unit) (g0 : List (Int × Int × Unit) → Int → Int → Option (Bool × Unit)) (o : List (Int × Int × Unit)) (least : Int) (t39 : Int) : Option (Bool × Unit) :=
  bif decide (t39 < (↑l'.length : Int)) then
    bif inb t39 l'.length then
      bif (l'.getD t39.toNat (0, 0, ())).fst != (l'.getD t39.toNat (0, 0, ())).snd.fst then
        g0 o (IntKind.i64.wrap (least + 1)) (IntKind.i64.wrap (t39 + 1))
      else
        g0 o least (IntKind.i64.wrap (t39 + 1))
    else
      none
  else
    l2 regs l' r least o o 0
def law_SwapOrders_b2 (nf : Nat) (l4 : Int → List (Int × Int × Unit) → List (Int × Int × Unit) × Int × Unit → Int → List (Int × Int × Unit) → List Int → Int → Option (Bool × Unit)) (regs : Int) (l' : List (Int × Int × Unit)) (r : List (Int × Int × Unit) × Int × Unit) (least : Int) (o : List (Int × Int × Unit)) (g2 : List (Int × Int × Unit) → Int → Option (Bool × Unit)) (o2 : List (Int × Int × Unit)) (t53 : Int) : Option (Bool × Unit) :=
  bif decide (t53 < (↑o.length : Int)) then
    bif inb t53 o2.length then
      Option.bind (ref_Inside_f nf (IntKind.i64.wrap (regs + 1)) ([(o2.getD t53.toNat (0, 0, ())).fst, (o2.getD t53.toNat (0, 0, ())).snd.fst])) fun r4 =>
      bif !r4.fst then
        some ((false, ()))
      else
        g2 o2 (IntKind.i64.wrap (t53 + 1))
    else
      none
  else
    Option.bind (ref_Moved_f nf regs o2) fun r5 =>
    l4 regs l' r least o2 r5.fst 0
def law_SwapOrders_b4 (nf : Nat) (regs : Int) (l' : List (Int × Int × Unit)) (r : List (Int × Int × Unit) × Int × Unit) (least : Int) (g4 : List (Int × Int × Unit) → List Int → Int → Option (Bool × Unit)) (o3 : List (Int × Int × Unit)) (v : List Int) (r6 : Int) : Option (Bool × Unit) :=
  bif decide (r6 < regs) then
    bif inb r6 v.length then
      Option.bind (ref_MoveFrom_f nf l' r6) fun r7 =>
      bif v.getD r6.toNat 0 != r7.fst then
        some ((false, ()))
      else
        g4 o3 v (IntKind.i64.wrap (r6 + 1))
    else
      none
  else
    bif r.snd.fst == 0 then
      some (((↑o3.length : Int) == least, ()))
    else
      some ((false, ()))
def law_SwapOrders_p (nf : Nat) (l0 : Int → List (Int × Int × Unit) → List (Int × Int × Unit) × Int × Unit → List (Int × Int × Unit) → Int → Int → Option (Bool × Unit)) (regs : Int) (l' : List (Int × Int × Unit)) : Option (Bool × Unit) :=
  Option.bind (swap_Order_f nf regs l') fun r =>
  Option.bind (ref_MovesCheck_f nf regs l') fun r2 =>
  bif r2.fst != 0 then
    bif r.snd.fst == r2.fst then
      some (((↑(List.length r.fst) : Int) == 0, ()))
    else
      some ((false, ()))
  else
    Option.bind (ref_Circles_f nf regs l') fun r3 =>
    l0 regs l' r r.fst r3.fst 0
def law_SwapOrders_l4 (nf : Nat) (regs : Int) (l' : List (Int × Int × Unit)) (r : List (Int × Int × Unit) × Int × Unit) (least : Int) : Nat → List (Int × Int × Unit) → List Int → Int → Option (Bool × Unit)
  | 0, _, _, _ => none
  | fu + 1, o3, v, r6 => law_SwapOrders_b4 nf  regs l' r least  (law_SwapOrders_l4 nf regs l' r least  fu) o3 v r6
def law_SwapOrders_l2 (nf : Nat) (regs : Int) (l' : List (Int × Int × Unit)) (r : List (Int × Int × Unit) × Int × Unit) (least : Int) (o : List (Int × Int × Unit)) : Nat → List (Int × Int × Unit) → Int → Option (Bool × Unit)
  | 0, _, _ => none
  | fu + 1, o2, t53 => law_SwapOrders_b2 nf (fun _ _ _ _ v0 v1 v2 => law_SwapOrders_l4 nf regs l' r least  nf v0 v1 v2) regs l' r least o  (law_SwapOrders_l2 nf regs l' r least o  fu) o2 t53
def law_SwapOrders_l0 (nf : Nat) (regs : Int) (l' : List (Int × Int × Unit)) (r : List (Int × Int × Unit) × Int × Unit) : Nat → List (Int × Int × Unit) → Int → Int → Option (Bool × Unit)
  | 0, _, _, _ => none
  | fu + 1, o, least, t39 => law_SwapOrders_b0 nf (fun _ _ _ p3 p4 v0 v1 => law_SwapOrders_l2 nf regs l' r p3 p4  nf v0 v1) regs l' r  (law_SwapOrders_l0 nf regs l' r  fu) o least t39
def law_SwapOrders_f (nf : Nat) (regs : Int) (l' : List (Int × Int × Unit)) : Option (Bool × Unit) := law_SwapOrders_p nf (fun p0 p1 p2 v0 v1 v2 => law_SwapOrders_l0 nf p0 p1 p2 nf v0 v1 v2) regs l'
noncomputable def law_SwapOrders_L0 (nf : Nat) : LC (Bool × Unit) := theL (findL tab (law_SwapOrders_phi nf) (fun _ F => iter nf F) law_SwapOrders_keep 0 0 (codeOf Try.f7) (fin tab [(Ty.bool, Md.bor false true)] (resL ([]) Try.f7)) (fun _ _ => none) (fin tab [(Ty.bool, Md.bor false true)] (resL ([]) Try.f7)))
def law_SwapOrders_m0 (regs : Int) (l' : List (Int × Int × Unit)) (r : List (Int × Int × Unit) × Int × Unit) (o : List (Int × Int × Unit)) (least : Int) (t39 : Int) : St := ⟨fresh, [(0, AV.v (Ty.int IntKind.i64) (Md.bor false true) regs), (1, AV.v ((Ty.int IntKind.i64).pair ((Ty.int IntKind.i64).pair Ty.unit)).sl (Md.bor false false) l'), (5, AV.ow 500005 ((Ty.int IntKind.i64).pair ((Ty.int IntKind.i64).pair Ty.unit)).sl (Md.own false (Md.bor false false)) o), (6, AV.v (Ty.int IntKind.i64) (Md.bor false true) r.snd.fst), (8, AV.v (Ty.int IntKind.i64) (Md.bor false true) least), (15, AV.dead), (18, AV.dead), (19, AV.dead), (37, AV.v ((Ty.int IntKind.i64).pair ((Ty.int IntKind.i64).pair Ty.unit)).sl (Md.bor false false) l'), (38, AV.v (Ty.int IntKind.i64) (Md.bor false true) (↑l'.length : Int)), (39, AV.v (Ty.int IntKind.i64) (Md.bor false true) t39)]⟩
noncomputable def law_SwapOrders_L2 (nf : Nat) : LC (Bool × Unit) := theL (findL tab (law_SwapOrders_phi nf) (fun _ F => iter nf F) law_SwapOrders_keep 2 0 (codeOf Try.f7) (fin tab [(Ty.bool, Md.bor false true)] (resL ([]) Try.f7)) (fun _ _ => none) (fin tab [(Ty.bool, Md.bor false true)] (resL ([]) Try.f7)))
def law_SwapOrders_m2 (regs : Int) (l' : List (Int × Int × Unit)) (r : List (Int × Int × Unit) × Int × Unit) (least : Int) (o : List (Int × Int × Unit)) (o2 : List (Int × Int × Unit)) (t53 : Int) : St := ⟨fresh, [(0, AV.v (Ty.int IntKind.i64) (Md.bor false true) regs), (1, AV.v ((Ty.int IntKind.i64).pair ((Ty.int IntKind.i64).pair Ty.unit)).sl (Md.bor false false) l'), (5, AV.ow 500005 ((Ty.int IntKind.i64).pair ((Ty.int IntKind.i64).pair Ty.unit)).sl (Md.own false (Md.bor false false)) o2), (6, AV.v (Ty.int IntKind.i64) (Md.bor false true) r.snd.fst), (8, AV.v (Ty.int IntKind.i64) (Md.bor false true) least), (15, AV.dead), (18, AV.dead), (19, AV.dead), (51, AV.al 5 500005 []), (52, AV.v (Ty.int IntKind.i64) (Md.bor false true) (↑o.length : Int)), (53, AV.v (Ty.int IntKind.i64) (Md.bor false true) t53)]⟩
noncomputable def law_SwapOrders_L4 (nf : Nat) : LC (Bool × Unit) := theL (findL tab (law_SwapOrders_phi nf) (fun _ F => iter nf F) law_SwapOrders_keep 4 0 (codeOf Try.f7) (fin tab [(Ty.bool, Md.bor false true)] (resL ([]) Try.f7)) (fun _ _ => none) (fin tab [(Ty.bool, Md.bor false true)] (resL ([]) Try.f7)))
def law_SwapOrders_m4 (regs : Int) (l' : List (Int × Int × Unit)) (r : List (Int × Int × Unit) × Int × Unit) (least : Int) (o3 : List (Int × Int × Unit)) (v : List Int) (r6 : Int) : St := ⟨fresh, [(0, AV.v (Ty.int IntKind.i64) (Md.bor false true) regs), (1, AV.v ((Ty.int IntKind.i64).pair ((Ty.int IntKind.i64).pair Ty.unit)).sl (Md.bor false false) l'), (5, AV.ow 500005 ((Ty.int IntKind.i64).pair ((Ty.int IntKind.i64).pair Ty.unit)).sl (Md.own false (Md.bor false false)) o3), (6, AV.v (Ty.int IntKind.i64) (Md.bor false true) r.snd.fst), (8, AV.v (Ty.int IntKind.i64) (Md.bor false true) least), (13, AV.ow 500013 (Ty.int IntKind.i64).sl (Md.own false (Md.bor false false)) v), (14, AV.v (Ty.int IntKind.i64) (Md.bor false true) r6), (15, AV.dead), (18, AV.dead), (19, AV.dead), (69, AV.dead)]⟩
theorem law_SwapOrders_h4 (nf : Nat)  (regs : Int) (l' : List (Int × Int × Unit)) (r : List (Int × Int × Unit) × Int × Unit) (least : Int) (fu : Nat) (o3 : List (Int × Int × Unit)) (v : List Int) (r6 : Int) : iter (fu + 1) (LC.F tab (law_SwapOrders_phi nf) (fun _ F => iter nf F) law_SwapOrders_keep 4 (law_SwapOrders_L4 nf )) (law_SwapOrders_m4 regs l' r least o3 v r6) = law_SwapOrders_b4 nf  regs l' r least  (fun o3 v r6 => iter fu (LC.F tab (law_SwapOrders_phi nf) (fun _ F => iter nf F) law_SwapOrders_keep 4 (law_SwapOrders_L4 nf )) (law_SwapOrders_m4 regs l' r least o3 v r6)) o3 v r6 := by kernel_rfl
theorem law_SwapOrders_e4 (nf : Nat)  (regs : Int) (l' : List (Int × Int × Unit)) (r : List (Int × Int × Unit) × Int × Unit) (least : Int) : ∀ (fu : Nat) (o3 : List (Int × Int × Unit)) (v : List Int) (r6 : Int), iter fu (LC.F tab (law_SwapOrders_phi nf) (fun _ F => iter nf F) law_SwapOrders_keep 4 (law_SwapOrders_L4 nf )) (law_SwapOrders_m4 regs l' r least o3 v r6) = law_SwapOrders_l4 nf regs l' r least  fu o3 v r6 := by
  intro fu
  induction fu with
  | zero => intros; rfl
  | succ fu ih =>
    intro o3 v r6
    rw [law_SwapOrders_h4 nf  regs l' r least fu o3 v r6]
    simp only [ih]
    rfl
theorem law_SwapOrders_h2 (nf : Nat)  (regs : Int) (l' : List (Int × Int × Unit)) (r : List (Int × Int × Unit) × Int × Unit) (least : Int) (o : List (Int × Int × Unit)) (fu : Nat) (o2 : List (Int × Int × Unit)) (t53 : Int) : iter (fu + 1) (LC.F tab (law_SwapOrders_phi nf) (fun _ F => iter nf F) law_SwapOrders_keep 2 (law_SwapOrders_L2 nf )) (law_SwapOrders_m2 regs l' r least o o2 t53) = law_SwapOrders_b2 nf (fun _ _ _ _ v0 v1 v2 => iter nf (LC.F tab (law_SwapOrders_phi nf) (fun _ F => iter nf F) law_SwapOrders_keep 4 (law_SwapOrders_L4 nf )) (law_SwapOrders_m4 regs l' r least v0 v1 v2)) regs l' r least o  (fun o2 t53 => iter fu (LC.F tab (law_SwapOrders_phi nf) (fun _ F => iter nf F) law_SwapOrders_keep 2 (law_SwapOrders_L2 nf )) (law_SwapOrders_m2 regs l' r least o o2 t53)) o2 t53 := by kernel_rfl
theorem law_SwapOrders_e2 (nf : Nat)  (regs : Int) (l' : List (Int × Int × Unit)) (r : List (Int × Int × Unit) × Int × Unit) (least : Int) (o : List (Int × Int × Unit)) : ∀ (fu : Nat) (o2 : List (Int × Int × Unit)) (t53 : Int), iter fu (LC.F tab (law_SwapOrders_phi nf) (fun _ F => iter nf F) law_SwapOrders_keep 2 (law_SwapOrders_L2 nf )) (law_SwapOrders_m2 regs l' r least o o2 t53) = law_SwapOrders_l2 nf regs l' r least o  fu o2 t53 := by
  intro fu
  induction fu with
  | zero => intros; rfl
  | succ fu ih =>
    intro o2 t53
    rw [law_SwapOrders_h2 nf  regs l' r least o fu o2 t53]
    simp only [ih, law_SwapOrders_e4]
    rfl
theorem law_SwapOrders_h0 (nf : Nat)  (regs : Int) (l' : List (Int × Int × Unit)) (r : List (Int × Int × Unit) × Int × Unit) (fu : Nat) (o : List (Int × Int × Unit)) (least : Int) (t39 : Int) : iter (fu + 1) (LC.F tab (law_SwapOrders_phi nf) (fun _ F => iter nf F) law_SwapOrders_keep 0 (law_SwapOrders_L0 nf )) (law_SwapOrders_m0 regs l' r o least t39) = law_SwapOrders_b0 nf (fun _ _ _ p3 p4 v0 v1 => iter nf (LC.F tab (law_SwapOrders_phi nf) (fun _ F => iter nf F) law_SwapOrders_keep 2 (law_SwapOrders_L2 nf )) (law_SwapOrders_m2 regs l' r p3 p4 v0 v1)) regs l' r  (fun o least t39 => iter fu (LC.F tab (law_SwapOrders_phi nf) (fun _ F => iter nf F) law_SwapOrders_keep 0 (law_SwapOrders_L0 nf )) (law_SwapOrders_m0 regs l' r o least t39)) o least t39 := by kernel_rfl
theorem law_SwapOrders_e0 (nf : Nat)  (regs : Int) (l' : List (Int × Int × Unit)) (r : List (Int × Int × Unit) × Int × Unit) : ∀ (fu : Nat) (o : List (Int × Int × Unit)) (least : Int) (t39 : Int), iter fu (LC.F tab (law_SwapOrders_phi nf) (fun _ F => iter nf F) law_SwapOrders_keep 0 (law_SwapOrders_L0 nf )) (law_SwapOrders_m0 regs l' r o least t39) = law_SwapOrders_l0 nf regs l' r  fu o least t39 := by
  intro fu
  induction fu with
  | zero => intros; rfl
  | succ fu ih =>
    intro o least t39
    rw [law_SwapOrders_h0 nf  regs l' r fu o least t39]
    simp only [ih, law_SwapOrders_e2]
    rfl
theorem law_SwapOrders_eq (nf : Nat) (regs : Int) (l' : List (Int × Int × Unit)) : runF tab (law_SwapOrders_phi nf) law_SwapOrders_keep nf [PT.val (Ty.int IntKind.i64) (Md.bor false false), PT.val ((Ty.int IntKind.i64).pair ((Ty.int IntKind.i64).pair Ty.unit)).sl (Md.bor false false)] [(Ty.bool, Md.bor false true)] (resL ([]) Try.f7) (codeOf Try.f7) ⟨regs, l', ()⟩ = law_SwapOrders_f nf regs l' := by
  have h : runF tab (law_SwapOrders_phi nf) law_SwapOrders_keep nf [PT.val (Ty.int IntKind.i64) (Md.bor false false), PT.val ((Ty.int IntKind.i64).pair ((Ty.int IntKind.i64).pair Ty.unit)).sl (Md.bor false false)] [(Ty.bool, Md.bor false true)] (resL ([]) Try.f7) (codeOf Try.f7) ⟨regs, l', ()⟩ = law_SwapOrders_p nf (fun p0 p1 p2 v0 v1 v2 => iter nf (LC.F tab (law_SwapOrders_phi nf) (fun _ F => iter nf F) law_SwapOrders_keep 0 (law_SwapOrders_L0 nf)) (law_SwapOrders_m0 p0 p1 p2 v0 v1 v2)) regs l' := by kernel_rfl
  rw [h]
  simp only [law_SwapOrders_e0]
  rfl
def law_SwapOrders_F (nf : Nat) (x : denPs [.val (.int .i64) (.bor false false), .val (.sl (.pair (.int .i64) (.pair (.int .i64) (.unit)))) (.bor false false)]) : Option (denL [(.bool, .bor false true)]) := law_SwapOrders_f nf x.1 x.2.1
def law_SwapOrders_C (nf : Nat) : Contract := ⟨[.val (.int .i64) (.bor false false), .val (.sl (.pair (.int .i64) (.pair (.int .i64) (.unit)))) (.bor false false)], [(.bool, .bor false true)], law_SwapOrders_F nf, []⟩
theorem law_SwapOrders_ok : FnOK Try.prog 7 := ⟨Try.f7, codeOf Try.f7, Try.func7, by kernel_rfl, by kernel_rfl⟩
theorem law_SwapOrders_holds (nf : Nat) : Contract.Holds Try.prog 7 (law_SwapOrders_C nf) :=
  fn_holds (Φ := law_SwapOrders_phi nf) (keep := law_SwapOrders_keep) (n := nf) ⟨tabs.1, tabs.2, (ctx_cons swap_Order_ok (swap_Order_holds nf) (ctx_cons ref_MovesCheck_ok (ref_MovesCheck_holds nf) (ctx_cons ref_Circles_ok (ref_Circles_holds nf) (ctx_cons ref_Inside_ok (ref_Inside_holds nf) (ctx_cons ref_Moved_ok (ref_Moved_holds nf) (ctx_cons ref_MoveFrom_ok (ref_MoveFrom_holds nf) ctx_nil)))))), mixed, bk_ok bkls rfl⟩ (fn := Try.f7) ⟨Try.func7, by kernel_rfl, by kernel_rfl, by kernel_rfl⟩ (fun x => law_SwapOrders_eq nf x.1 x.2.1)
end
end Go.Proofs.Ytmndifhjmbiodaa.S
