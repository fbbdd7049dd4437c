/- The functions of the code, as plain functions, and the theorems that say so: made by a program of this proof's own. -/
import Derived.Test.YtgbldmehdipfaaaFn1
import Derived.Test.YtgbldmehdipfaaaChecked
namespace Go.Proofs.Ytgbldmehdipfaaa.S
open Go Go.Ab

/-! codemason color.clashes -/
def color_clashes_phi (nf : Nat) : Nat → Option Contract := lookC []
def color_clashes_keep : Nat → List Nat := lookK [(2, [1, 6, 23, 46, 47, 48]), (0, [0, 1, 6, 23, 24, 25, 26])]
def color_clashes_b0 (nf : Nat) (l2 : List (Int × Int × Unit) → List Int → Int → Option (List Int × Int × Unit)) (n' : Int) (pairs : List (Int × Int × Unit)) (g0 : List Int → Int → Option (List Int × Int × Unit)) (with' : List Int) (t26 : Int) : Option (List Int × Int × Unit) :=
  bif decide (t26 < (↑pairs.length : Int)) then
    bif inb t26 pairs.length then
      bif decide ((if (pairs.getD t26.toNat (0, 0, ())).snd.fst < (pairs.getD t26.toNat (0, 0, ())).fst then (pairs.getD t26.toNat (0, 0, ())).snd.fst else (pairs.getD t26.toNat (0, 0, ())).fst) < 0) then
        some (([], 2, ()))
      else
        bif decide ((if (pairs.getD t26.toNat (0, 0, ())).snd.fst > (pairs.getD t26.toNat (0, 0, ())).fst then (pairs.getD t26.toNat (0, 0, ())).snd.fst else (pairs.getD t26.toNat (0, 0, ())).fst) ≥ n') then
          some (([], 2, ()))
        else
          g0 with' (IntKind.i64.wrap (t26 + 1))
    else
      none
  else
    l2 pairs with' 0
def color_clashes_b2 (nf : Nat) (pairs : List (Int × Int × Unit)) (g2 : List Int → Int → Option (List Int × Int × Unit)) (with'2 : List Int) (t48 : Int) : Option (List Int × Int × Unit) :=
  bif decide (t48 < (↑pairs.length : Int)) then
    bif inb t48 pairs.length then
      bif (pairs.getD t48.toNat (0, 0, ())).fst == (pairs.getD t48.toNat (0, 0, ())).snd.fst then
        some (([], 3, ()))
      else
        bif inb (pairs.getD t48.toNat (0, 0, ())).fst with'2.length then
          bif decide (0 ≤ (pairs.getD t48.toNat (0, 0, ())).snd.fst) then
            bif inb (pairs.getD t48.toNat (0, 0, ())).fst with'2.length then
              bif inb (pairs.getD t48.toNat (0, 0, ())).snd.fst (with'2.set (Int.toNat (pairs.getD t48.toNat (0, 0, ())).fst) (IntKind.u32.wrap (↑(BitVec.ofInt IntKind.u32.bits (with'2.getD (Int.toNat (pairs.getD t48.toNat (0, 0, ())).fst) 0) ||| BitVec.ofInt IntKind.u32.bits (shlI IntKind.u32 1 (pairs.getD t48.toNat (0, 0, ())).snd.fst)).toNat : Int))).length then
                bif decide (0 ≤ (pairs.getD t48.toNat (0, 0, ())).fst) then
                  bif inb (pairs.getD t48.toNat (0, 0, ())).snd.fst (with'2.set (Int.toNat (pairs.getD t48.toNat (0, 0, ())).fst) (IntKind.u32.wrap (↑(BitVec.ofInt IntKind.u32.bits (with'2.getD (Int.toNat (pairs.getD t48.toNat (0, 0, ())).fst) 0) ||| BitVec.ofInt IntKind.u32.bits (shlI IntKind.u32 1 (pairs.getD t48.toNat (0, 0, ())).snd.fst)).toNat : Int))).length then
                    g2 ((with'2.set (Int.toNat (pairs.getD t48.toNat (0, 0, ())).fst) (IntKind.u32.wrap (↑(BitVec.ofInt IntKind.u32.bits (with'2.getD (Int.toNat (pairs.getD t48.toNat (0, 0, ())).fst) 0) ||| BitVec.ofInt IntKind.u32.bits (shlI IntKind.u32 1 (pairs.getD t48.toNat (0, 0, ())).snd.fst)).toNat : Int))).set (Int.toNat (pairs.getD t48.toNat (0, 0, ())).snd.fst) (IntKind.u32.wrap (↑(BitVec.ofInt IntKind.u32.bits ((with'2.set (Int.toNat (pairs.getD t48.toNat (0, 0, ())).fst) (IntKind.u32.wrap (↑(BitVec.ofInt IntKind.u32.bits (with'2.getD (Int.toNat (pairs.getD t48.toNat (0, 0, ())).fst) 0) ||| BitVec.ofInt IntKind.u32.bits (shlI IntKind.u32 1 (pairs.getD t48.toNat (0, 0, ())).snd.fst)).toNat : Int))).getD (Int.toNat (pairs.getD t48.toNat (0, 0, ())).snd.fst) 0) ||| BitVec.ofInt IntKind.u32.bits (shlI IntKind.u32 1 (pairs.getD t48.toNat (0, 0, ())).fst)).toNat : Int))) (IntKind.i64.wrap (t48 + 1))
                  else
                    none
                else
                  none
              else
                none
            else
              none
          else
            none
        else
          none
    else
      none
  else
    some ((with'2, 0, ()))
def color_clashes_p (nf : Nat) (l0 : Int → List (Int × Int × Unit) → List Int → Int → Option (List Int × Int × Unit)) (n' : Int) (pairs : List (Int × Int × Unit)) : Option (List Int × Int × Unit) :=
  bif decide (n' < 1) then
    some (([], 1, ()))
  else
    bif decide (n' > 8) then
      some (([], 1, ()))
    else
      bif decide ((↑pairs.length : Int) > 28) then
        some (([], 1, ()))
      else
        bif decide (0 ≤ n') && decide (n' ≤ n') && decide (n' ≤ (↑lim : Int)) then
          l0 n' pairs (List.replicate n'.toNat 0) 0
        else
          none
def color_clashes_l2 (nf : Nat) (pairs : List (Int × Int × Unit)) : Nat → List Int → Int → Option (List Int × Int × Unit)
  | 0, _, _ => none
  | fu + 1, with'2, t48 => color_clashes_b2 nf  pairs  (color_clashes_l2 nf pairs  fu) with'2 t48
def color_clashes_l0 (nf : Nat) (n' : Int) (pairs : List (Int × Int × Unit)) : Nat → List Int → Int → Option (List Int × Int × Unit)
  | 0, _, _ => none
  | fu + 1, with', t26 => color_clashes_b0 nf (fun _ v0 v1 => color_clashes_l2 nf pairs  nf v0 v1) n' pairs  (color_clashes_l0 nf n' pairs  fu) with' t26
def color_clashes_f (nf : Nat) (n' : Int) (pairs : List (Int × Int × Unit)) : Option (List Int × Int × Unit) := color_clashes_p nf (fun p0 p1 v0 v1 => color_clashes_l0 nf p0 p1 nf v0 v1) n' pairs
noncomputable def color_clashes_L0 (nf : Nat) : LC (List Int × Int × Unit) := theL (findL tab (color_clashes_phi nf) (fun _ F => iter nf F) color_clashes_keep 0 0 (codeOf Try.f37) (fin [((Ty.int IntKind.u32).sl, Md.own false (Md.bor false false)), (Ty.int IntKind.i64, Md.bor false true)] Try.f37.results.toList) (fun _ _ => none) (fin [((Ty.int IntKind.u32).sl, Md.own false (Md.bor false false)), (Ty.int IntKind.i64, Md.bor false true)] Try.f37.results.toList))
def color_clashes_m0 (n' : Int) (pairs : List (Int × Int × Unit)) (with' : List Int) (t26 : Int) : St := ⟨fresh, [(0, AV.v (Ty.int IntKind.i64) (Md.bor false true) n'), (1, AV.v ((Ty.int IntKind.i64).pair ((Ty.int IntKind.i64).pair Ty.unit)).sl (Md.bor true false) pairs), (6, AV.ow 500006 (Ty.int IntKind.u32).sl (Md.own false (Md.bor false false)) with'), (23, AV.dead), (24, AV.v ((Ty.int IntKind.i64).pair ((Ty.int IntKind.i64).pair Ty.unit)).sl (Md.bor true false) pairs), (25, AV.v (Ty.int IntKind.i64) (Md.bor false true) (↑pairs.length : Int)), (26, AV.v (Ty.int IntKind.i64) (Md.bor false true) t26)]⟩
noncomputable def color_clashes_L2 (nf : Nat) : LC (List Int × Int × Unit) := theL (findL tab (color_clashes_phi nf) (fun _ F => iter nf F) color_clashes_keep 2 0 (codeOf Try.f37) (fin [((Ty.int IntKind.u32).sl, Md.own false (Md.bor false false)), (Ty.int IntKind.i64, Md.bor false true)] Try.f37.results.toList) (fun _ _ => none) (fin [((Ty.int IntKind.u32).sl, Md.own false (Md.bor false false)), (Ty.int IntKind.i64, Md.bor false true)] Try.f37.results.toList))
def color_clashes_m2 (pairs : List (Int × Int × Unit)) (with'2 : List Int) (t48 : Int) : St := ⟨fresh, [(1, AV.v ((Ty.int IntKind.i64).pair ((Ty.int IntKind.i64).pair Ty.unit)).sl (Md.bor true false) pairs), (6, AV.ow 500006 (Ty.int IntKind.u32).sl (Md.own false (Md.bor false false)) with'2), (23, AV.dead), (46, AV.v ((Ty.int IntKind.i64).pair ((Ty.int IntKind.i64).pair Ty.unit)).sl (Md.bor true false) pairs), (47, AV.v (Ty.int IntKind.i64) (Md.bor false true) (↑pairs.length : Int)), (48, AV.v (Ty.int IntKind.i64) (Md.bor false true) t48)]⟩
theorem color_clashes_h2 (nf : Nat)  (pairs : List (Int × Int × Unit)) (fu : Nat) (with'2 : List Int) (t48 : Int) : iter (fu + 1) (LC.F tab (color_clashes_phi nf) (fun _ F => iter nf F) color_clashes_keep 2 (color_clashes_L2 nf )) (color_clashes_m2 pairs with'2 t48) = color_clashes_b2 nf  pairs  (fun with'2 t48 => iter fu (LC.F tab (color_clashes_phi nf) (fun _ F => iter nf F) color_clashes_keep 2 (color_clashes_L2 nf )) (color_clashes_m2 pairs with'2 t48)) with'2 t48 := by kernel_rfl
theorem color_clashes_e2 (nf : Nat)  (pairs : List (Int × Int × Unit)) : ∀ (fu : Nat) (with'2 : List Int) (t48 : Int), iter fu (LC.F tab (color_clashes_phi nf) (fun _ F => iter nf F) color_clashes_keep 2 (color_clashes_L2 nf )) (color_clashes_m2 pairs with'2 t48) = color_clashes_l2 nf pairs  fu with'2 t48 := by
  intro fu
  induction fu with
  | zero => intros; rfl
  | succ fu ih =>
    intro with'2 t48
    rw [color_clashes_h2 nf  pairs fu with'2 t48]
    simp only [ih]
    rfl
theorem color_clashes_h0 (nf : Nat)  (n' : Int) (pairs : List (Int × Int × Unit)) (fu : Nat) (with' : List Int) (t26 : Int) : iter (fu + 1) (LC.F tab (color_clashes_phi nf) (fun _ F => iter nf F) color_clashes_keep 0 (color_clashes_L0 nf )) (color_clashes_m0 n' pairs with' t26) = color_clashes_b0 nf (fun _ v0 v1 => iter nf (LC.F tab (color_clashes_phi nf) (fun _ F => iter nf F) color_clashes_keep 2 (color_clashes_L2 nf )) (color_clashes_m2 pairs v0 v1)) n' pairs  (fun with' t26 => iter fu (LC.F tab (color_clashes_phi nf) (fun _ F => iter nf F) color_clashes_keep 0 (color_clashes_L0 nf )) (color_clashes_m0 n' pairs with' t26)) with' t26 := by kernel_rfl
theorem color_clashes_e0 (nf : Nat)  (n' : Int) (pairs : List (Int × Int × Unit)) : ∀ (fu : Nat) (with' : List Int) (t26 : Int), iter fu (LC.F tab (color_clashes_phi nf) (fun _ F => iter nf F) color_clashes_keep 0 (color_clashes_L0 nf )) (color_clashes_m0 n' pairs with' t26) = color_clashes_l0 nf n' pairs  fu with' t26 := by
  intro fu
  induction fu with
  | zero => intros; rfl
  | succ fu ih =>
    intro with' t26
    rw [color_clashes_h0 nf  n' pairs fu with' t26]
    simp only [ih, color_clashes_e2]
    rfl
theorem color_clashes_eq (nf : Nat) (n' : Int) (pairs : List (Int × Int × Unit)) : runF tab (color_clashes_phi nf) color_clashes_keep nf [PT.val (Ty.int IntKind.i64) (Md.bor true false), PT.val ((Ty.int IntKind.i64).pair ((Ty.int IntKind.i64).pair Ty.unit)).sl (Md.bor true false)] [((Ty.int IntKind.u32).sl, Md.own false (Md.bor false false)), (Ty.int IntKind.i64, Md.bor false true)] Try.f37.results.toList (codeOf Try.f37) ⟨n', pairs, ()⟩ = color_clashes_f nf n' pairs := by
  have h : runF tab (color_clashes_phi nf) color_clashes_keep nf [PT.val (Ty.int IntKind.i64) (Md.bor true false), PT.val ((Ty.int IntKind.i64).pair ((Ty.int IntKind.i64).pair Ty.unit)).sl (Md.bor true false)] [((Ty.int IntKind.u32).sl, Md.own false (Md.bor false false)), (Ty.int IntKind.i64, Md.bor false true)] Try.f37.results.toList (codeOf Try.f37) ⟨n', pairs, ()⟩ = color_clashes_p nf (fun p0 p1 v0 v1 => iter nf (LC.F tab (color_clashes_phi nf) (fun _ F => iter nf F) color_clashes_keep 0 (color_clashes_L0 nf)) (color_clashes_m0 p0 p1 v0 v1)) n' pairs := by kernel_rfl
  rw [h]
  simp only [color_clashes_e0]
  rfl
def color_clashes_F (nf : Nat) (x : denPs [.val (.int .i64) (.bor true false), .val (.sl (.pair (.int .i64) (.pair (.int .i64) (.unit)))) (.bor true false)]) : Option (denL [(.sl (.int .u32), .own false (.bor false false)), (.int .i64, .bor false true)]) := color_clashes_f nf x.1 x.2.1
def color_clashes_C (nf : Nat) : Contract := ⟨[.val (.int .i64) (.bor true false), .val (.sl (.pair (.int .i64) (.pair (.int .i64) (.unit)))) (.bor true false)], [(.sl (.int .u32), .own false (.bor false false)), (.int .i64, .bor false true)], color_clashes_F nf⟩
theorem color_clashes_ok : FnOK Try.prog 37 := ⟨Try.f37, codeOf Try.f37, Try.func37, by kernel_rfl, by kernel_rfl⟩
theorem color_clashes_holds (nf : Nat) : Contract.Holds Try.prog 37 (color_clashes_C nf) :=
  fn_holds (Φ := color_clashes_phi nf) (keep := color_clashes_keep) (n := nf) ⟨tabs.1, tabs.2, ctx_nil, mixed⟩ (fn := Try.f37) ⟨Try.func37, by kernel_rfl, by kernel_rfl, by kernel_rfl⟩ (fun x => color_clashes_eq nf x.1 x.2.1)

/-! math bits.OnesCount32 -/
def bits_OnesCount32_phi (nf : Nat) : Nat → Option Contract := lookC []
def bits_OnesCount32_keep : Nat → List Nat := lookK []
def bits_OnesCount32_p (nf : Nat)  (x : Int) : Option (Int × Unit) :=
  bif inb (shrI IntKind.u32 x 24) [0, 1, 1, 2, 1, 2, 2, 3, 1, 2, 2, 3, 2, 3, 3, 4, 1, 2, 2, 3, 2, 3, 3, 4, 2, 3, 3, 4, 3, 4, 4, 5, 1, 2, 2, 3, 2, 3, 3, 4, 2, 3, 3, 4, 3, 4, 4, 5, 2, 3, 3, 4, 3, 4, 4, 5, 3, 4, 4, 5, 4, 5, 5, 6, 1, 2, 2, 3, 2, 3, 3, 4, 2, 3, 3, 4, 3, 4, 4, 5, 2, 3, 3, 4, 3, 4, 4, 5, 3, 4, 4, 5, 4, 5, 5, 6, 2, 3, 3, 4, 3, 4, 4, 5, 3, 4, 4, 5, 4, 5, 5, 6, 3, 4, 4, 5, 4, 5, 5, 6, 4, 5, 5, 6, 5, 6, 6, 7, 1, 2, 2, 3, 2, 3, 3, 4, 2, 3, 3, 4, 3, 4, 4, 5, 2, 3, 3, 4, 3, 4, 4, 5, 3, 4, 4, 5, 4, 5, 5, 6, 2, 3, 3, 4, 3, 4, 4, 5, 3, 4, 4, 5, 4, 5, 5, 6, 3, 4, 4, 5, 4, 5, 5, 6, 4, 5, 5, 6, 5, 6, 6, 7, 2, 3, 3, 4, 3, 4, 4, 5, 3, 4, 4, 5, 4, 5, 5, 6, 3, 4, 4, 5, 4, 5, 5, 6, 4, 5, 5, 6, 5, 6, 6, 7, 3, 4, 4, 5, 4, 5, 5, 6, 4, 5, 5, 6, 5, 6, 6, 7, 4, 5, 5, 6, 5, 6, 6, 7, 5, 6, 6, 7, 6, 7, 7, 8].length then
    bif inb (IntKind.u32.wrap (↑(BitVec.ofInt IntKind.u32.bits (shrI IntKind.u32 x 16) &&& BitVec.ofInt IntKind.u32.bits 255).toNat : Int)) [0, 1, 1, 2, 1, 2, 2, 3, 1, 2, 2, 3, 2, 3, 3, 4, 1, 2, 2, 3, 2, 3, 3, 4, 2, 3, 3, 4, 3, 4, 4, 5, 1, 2, 2, 3, 2, 3, 3, 4, 2, 3, 3, 4, 3, 4, 4, 5, 2, 3, 3, 4, 3, 4, 4, 5, 3, 4, 4, 5, 4, 5, 5, 6, 1, 2, 2, 3, 2, 3, 3, 4, 2, 3, 3, 4, 3, 4, 4, 5, 2, 3, 3, 4, 3, 4, 4, 5, 3, 4, 4, 5, 4, 5, 5, 6, 2, 3, 3, 4, 3, 4, 4, 5, 3, 4, 4, 5, 4, 5, 5, 6, 3, 4, 4, 5, 4, 5, 5, 6, 4, 5, 5, 6, 5, 6, 6, 7, 1, 2, 2, 3, 2, 3, 3, 4, 2, 3, 3, 4, 3, 4, 4, 5, 2, 3, 3, 4, 3, 4, 4, 5, 3, 4, 4, 5, 4, 5, 5, 6, 2, 3, 3, 4, 3, 4, 4, 5, 3, 4, 4, 5, 4, 5, 5, 6, 3, 4, 4, 5, 4, 5, 5, 6, 4, 5, 5, 6, 5, 6, 6, 7, 2, 3, 3, 4, 3, 4, 4, 5, 3, 4, 4, 5, 4, 5, 5, 6, 3, 4, 4, 5, 4, 5, 5, 6, 4, 5, 5, 6, 5, 6, 6, 7, 3, 4, 4, 5, 4, 5, 5, 6, 4, 5, 5, 6, 5, 6, 6, 7, 4, 5, 5, 6, 5, 6, 6, 7, 5, 6, 6, 7, 6, 7, 7, 8].length then
      bif inb (IntKind.u32.wrap (↑(BitVec.ofInt IntKind.u32.bits (shrI IntKind.u32 x 8) &&& BitVec.ofInt IntKind.u32.bits 255).toNat : Int)) [0, 1, 1, 2, 1, 2, 2, 3, 1, 2, 2, 3, 2, 3, 3, 4, 1, 2, 2, 3, 2, 3, 3, 4, 2, 3, 3, 4, 3, 4, 4, 5, 1, 2, 2, 3, 2, 3, 3, 4, 2, 3, 3, 4, 3, 4, 4, 5, 2, 3, 3, 4, 3, 4, 4, 5, 3, 4, 4, 5, 4, 5, 5, 6, 1, 2, 2, 3, 2, 3, 3, 4, 2, 3, 3, 4, 3, 4, 4, 5, 2, 3, 3, 4, 3, 4, 4, 5, 3, 4, 4, 5, 4, 5, 5, 6, 2, 3, 3, 4, 3, 4, 4, 5, 3, 4, 4, 5, 4, 5, 5, 6, 3, 4, 4, 5, 4, 5, 5, 6, 4, 5, 5, 6, 5, 6, 6, 7, 1, 2, 2, 3, 2, 3, 3, 4, 2, 3, 3, 4, 3, 4, 4, 5, 2, 3, 3, 4, 3, 4, 4, 5, 3, 4, 4, 5, 4, 5, 5, 6, 2, 3, 3, 4, 3, 4, 4, 5, 3, 4, 4, 5, 4, 5, 5, 6, 3, 4, 4, 5, 4, 5, 5, 6, 4, 5, 5, 6, 5, 6, 6, 7, 2, 3, 3, 4, 3, 4, 4, 5, 3, 4, 4, 5, 4, 5, 5, 6, 3, 4, 4, 5, 4, 5, 5, 6, 4, 5, 5, 6, 5, 6, 6, 7, 3, 4, 4, 5, 4, 5, 5, 6, 4, 5, 5, 6, 5, 6, 6, 7, 4, 5, 5, 6, 5, 6, 6, 7, 5, 6, 6, 7, 6, 7, 7, 8].length then
        bif inb (IntKind.u32.wrap (↑(BitVec.ofInt IntKind.u32.bits x &&& BitVec.ofInt IntKind.u32.bits 255).toNat : Int)) [0, 1, 1, 2, 1, 2, 2, 3, 1, 2, 2, 3, 2, 3, 3, 4, 1, 2, 2, 3, 2, 3, 3, 4, 2, 3, 3, 4, 3, 4, 4, 5, 1, 2, 2, 3, 2, 3, 3, 4, 2, 3, 3, 4, 3, 4, 4, 5, 2, 3, 3, 4, 3, 4, 4, 5, 3, 4, 4, 5, 4, 5, 5, 6, 1, 2, 2, 3, 2, 3, 3, 4, 2, 3, 3, 4, 3, 4, 4, 5, 2, 3, 3, 4, 3, 4, 4, 5, 3, 4, 4, 5, 4, 5, 5, 6, 2, 3, 3, 4, 3, 4, 4, 5, 3, 4, 4, 5, 4, 5, 5, 6, 3, 4, 4, 5, 4, 5, 5, 6, 4, 5, 5, 6, 5, 6, 6, 7, 1, 2, 2, 3, 2, 3, 3, 4, 2, 3, 3, 4, 3, 4, 4, 5, 2, 3, 3, 4, 3, 4, 4, 5, 3, 4, 4, 5, 4, 5, 5, 6, 2, 3, 3, 4, 3, 4, 4, 5, 3, 4, 4, 5, 4, 5, 5, 6, 3, 4, 4, 5, 4, 5, 5, 6, 4, 5, 5, 6, 5, 6, 6, 7, 2, 3, 3, 4, 3, 4, 4, 5, 3, 4, 4, 5, 4, 5, 5, 6, 3, 4, 4, 5, 4, 5, 5, 6, 4, 5, 5, 6, 5, 6, 6, 7, 3, 4, 4, 5, 4, 5, 5, 6, 4, 5, 5, 6, 5, 6, 6, 7, 4, 5, 5, 6, 5, 6, 6, 7, 5, 6, 6, 7, 6, 7, 7, 8].length then
          some ((IntKind.i64.wrap (IntKind.u8.wrap (IntKind.u8.wrap (IntKind.u8.wrap ([0, 1, 1, 2, 1, 2, 2, 3, 1, 2, 2, 3, 2, 3, 3, 4, 1, 2, 2, 3, 2, 3, 3, 4, 2, 3, 3, 4, 3, 4, 4, 5, 1, 2, 2, 3, 2, 3, 3, 4, 2, 3, 3, 4, 3, 4, 4, 5, 2, 3, 3, 4, 3, 4, 4, 5, 3, 4, 4, 5, 4, 5, 5, 6, 1, 2, 2, 3, 2, 3, 3, 4, 2, 3, 3, 4, 3, 4, 4, 5, 2, 3, 3, 4, 3, 4, 4, 5, 3, 4, 4, 5, 4, 5, 5, 6, 2, 3, 3, 4, 3, 4, 4, 5, 3, 4, 4, 5, 4, 5, 5, 6, 3, 4, 4, 5, 4, 5, 5, 6, 4, 5, 5, 6, 5, 6, 6, 7, 1, 2, 2, 3, 2, 3, 3, 4, 2, 3, 3, 4, 3, 4, 4, 5, 2, 3, 3, 4, 3, 4, 4, 5, 3, 4, 4, 5, 4, 5, 5, 6, 2, 3, 3, 4, 3, 4, 4, 5, 3, 4, 4, 5, 4, 5, 5, 6, 3, 4, 4, 5, 4, 5, 5, 6, 4, 5, 5, 6, 5, 6, 6, 7, 2, 3, 3, 4, 3, 4, 4, 5, 3, 4, 4, 5, 4, 5, 5, 6, 3, 4, 4, 5, 4, 5, 5, 6, 4, 5, 5, 6, 5, 6, 6, 7, 3, 4, 4, 5, 4, 5, 5, 6, 4, 5, 5, 6, 5, 6, 6, 7, 4, 5, 5, 6, 5, 6, 6, 7, 5, 6, 6, 7, 6, 7, 7, 8].getD (shrI IntKind.u32 x 24).toNat 0 + [0, 1, 1, 2, 1, 2, 2, 3, 1, 2, 2, 3, 2, 3, 3, 4, 1, 2, 2, 3, 2, 3, 3, 4, 2, 3, 3, 4, 3, 4, 4, 5, 1, 2, 2, 3, 2, 3, 3, 4, 2, 3, 3, 4, 3, 4, 4, 5, 2, 3, 3, 4, 3, 4, 4, 5, 3, 4, 4, 5, 4, 5, 5, 6, 1, 2, 2, 3, 2, 3, 3, 4, 2, 3, 3, 4, 3, 4, 4, 5, 2, 3, 3, 4, 3, 4, 4, 5, 3, 4, 4, 5, 4, 5, 5, 6, 2, 3, 3, 4, 3, 4, 4, 5, 3, 4, 4, 5, 4, 5, 5, 6, 3, 4, 4, 5, 4, 5, 5, 6, 4, 5, 5, 6, 5, 6, 6, 7, 1, 2, 2, 3, 2, 3, 3, 4, 2, 3, 3, 4, 3, 4, 4, 5, 2, 3, 3, 4, 3, 4, 4, 5, 3, 4, 4, 5, 4, 5, 5, 6, 2, 3, 3, 4, 3, 4, 4, 5, 3, 4, 4, 5, 4, 5, 5, 6, 3, 4, 4, 5, 4, 5, 5, 6, 4, 5, 5, 6, 5, 6, 6, 7, 2, 3, 3, 4, 3, 4, 4, 5, 3, 4, 4, 5, 4, 5, 5, 6, 3, 4, 4, 5, 4, 5, 5, 6, 4, 5, 5, 6, 5, 6, 6, 7, 3, 4, 4, 5, 4, 5, 5, 6, 4, 5, 5, 6, 5, 6, 6, 7, 4, 5, 5, 6, 5, 6, 6, 7, 5, 6, 6, 7, 6, 7, 7, 8].getD (IntKind.u32.wrap (↑(BitVec.ofInt IntKind.u32.bits (shrI IntKind.u32 x 16) &&& BitVec.ofInt IntKind.u32.bits 255).toNat : Int)).toNat 0) + [0, 1, 1, 2, 1, 2, 2, 3, 1, 2, 2, 3, 2, 3, 3, 4, 1, 2, 2, 3, 2, 3, 3, 4, 2, 3, 3, 4, 3, 4, 4, 5, 1, 2, 2, 3, 2, 3, 3, 4, 2, 3, 3, 4, 3, 4, 4, 5, 2, 3, 3, 4, 3, 4, 4, 5, 3, 4, 4, 5, 4, 5, 5, 6, 1, 2, 2, 3, 2, 3, 3, 4, 2, 3, 3, 4, 3, 4, 4, 5, 2, 3, 3, 4, 3, 4, 4, 5, 3, 4, 4, 5, 4, 5, 5, 6, 2, 3, 3, 4, 3, 4, 4, 5, 3, 4, 4, 5, 4, 5, 5, 6, 3, 4, 4, 5, 4, 5, 5, 6, 4, 5, 5, 6, 5, 6, 6, 7, 1, 2, 2, 3, 2, 3, 3, 4, 2, 3, 3, 4, 3, 4, 4, 5, 2, 3, 3, 4, 3, 4, 4, 5, 3, 4, 4, 5, 4, 5, 5, 6, 2, 3, 3, 4, 3, 4, 4, 5, 3, 4, 4, 5, 4, 5, 5, 6, 3, 4, 4, 5, 4, 5, 5, 6, 4, 5, 5, 6, 5, 6, 6, 7, 2, 3, 3, 4, 3, 4, 4, 5, 3, 4, 4, 5, 4, 5, 5, 6, 3, 4, 4, 5, 4, 5, 5, 6, 4, 5, 5, 6, 5, 6, 6, 7, 3, 4, 4, 5, 4, 5, 5, 6, 4, 5, 5, 6, 5, 6, 6, 7, 4, 5, 5, 6, 5, 6, 6, 7, 5, 6, 6, 7, 6, 7, 7, 8].getD (IntKind.u32.wrap (↑(BitVec.ofInt IntKind.u32.bits (shrI IntKind.u32 x 8) &&& BitVec.ofInt IntKind.u32.bits 255).toNat : Int)).toNat 0) + [0, 1, 1, 2, 1, 2, 2, 3, 1, 2, 2, 3, 2, 3, 3, 4, 1, 2, 2, 3, 2, 3, 3, 4, 2, 3, 3, 4, 3, 4, 4, 5, 1, 2, 2, 3, 2, 3, 3, 4, 2, 3, 3, 4, 3, 4, 4, 5, 2, 3, 3, 4, 3, 4, 4, 5, 3, 4, 4, 5, 4, 5, 5, 6, 1, 2, 2, 3, 2, 3, 3, 4, 2, 3, 3, 4, 3, 4, 4, 5, 2, 3, 3, 4, 3, 4, 4, 5, 3, 4, 4, 5, 4, 5, 5, 6, 2, 3, 3, 4, 3, 4, 4, 5, 3, 4, 4, 5, 4, 5, 5, 6, 3, 4, 4, 5, 4, 5, 5, 6, 4, 5, 5, 6, 5, 6, 6, 7, 1, 2, 2, 3, 2, 3, 3, 4, 2, 3, 3, 4, 3, 4, 4, 5, 2, 3, 3, 4, 3, 4, 4, 5, 3, 4, 4, 5, 4, 5, 5, 6, 2, 3, 3, 4, 3, 4, 4, 5, 3, 4, 4, 5, 4, 5, 5, 6, 3, 4, 4, 5, 4, 5, 5, 6, 4, 5, 5, 6, 5, 6, 6, 7, 2, 3, 3, 4, 3, 4, 4, 5, 3, 4, 4, 5, 4, 5, 5, 6, 3, 4, 4, 5, 4, 5, 5, 6, 4, 5, 5, 6, 5, 6, 6, 7, 3, 4, 4, 5, 4, 5, 5, 6, 4, 5, 5, 6, 5, 6, 6, 7, 4, 5, 5, 6, 5, 6, 6, 7, 5, 6, 6, 7, 6, 7, 7, 8].getD (IntKind.u32.wrap (↑(BitVec.ofInt IntKind.u32.bits x &&& BitVec.ofInt IntKind.u32.bits 255).toNat : Int)).toNat 0)), ()))
        else
          none
      else
        none
    else
      none
  else
    none
def bits_OnesCount32_f (nf : Nat) (x : Int) : Option (Int × Unit) := bits_OnesCount32_p nf  x
theorem bits_OnesCount32_eq (nf : Nat) (x : Int) : runF tab (bits_OnesCount32_phi nf) bits_OnesCount32_keep nf [PT.val (Ty.int IntKind.u32) (Md.bor true false)] [(Ty.int IntKind.i64, Md.bor false true)] Try.f38.results.toList (codeOf Try.f38) ⟨x, ()⟩ = bits_OnesCount32_f nf x := by
  have h : runF tab (bits_OnesCount32_phi nf) bits_OnesCount32_keep nf [PT.val (Ty.int IntKind.u32) (Md.bor true false)] [(Ty.int IntKind.i64, Md.bor false true)] Try.f38.results.toList (codeOf Try.f38) ⟨x, ()⟩ = bits_OnesCount32_p nf  x := by kernel_rfl
  exact h
def bits_OnesCount32_F (nf : Nat) (x : denPs [.val (.int .u32) (.bor true false)]) : Option (denL [(.int .i64, .bor false true)]) := bits_OnesCount32_f nf x.1
def bits_OnesCount32_C (nf : Nat) : Contract := ⟨[.val (.int .u32) (.bor true false)], [(.int .i64, .bor false true)], bits_OnesCount32_F nf⟩
theorem bits_OnesCount32_ok : FnOK Try.prog 38 := ⟨Try.f38, codeOf Try.f38, Try.func38, by kernel_rfl, by kernel_rfl⟩
theorem bits_OnesCount32_holds (nf : Nat) : Contract.Holds Try.prog 38 (bits_OnesCount32_C nf) :=
  fn_holds (Φ := bits_OnesCount32_phi nf) (keep := bits_OnesCount32_keep) (n := nf) ⟨tabs.1, tabs.2, ctx_nil, mixed⟩ (fn := Try.f38) ⟨Try.func38, by kernel_rfl, by kernel_rfl, by kernel_rfl⟩ (fun x => bits_OnesCount32_eq nf x.1)

/-! codemason color.Peel -/
def color_Peel_phi (nf : Nat) : Nat → Option Contract := lookC [(37, color_clashes_C nf), (38, bits_OnesCount32_C nf)]
def color_Peel_keep : Nat → List Nat := lookK [(2, [2, 8, 10, 12, 15, 18, 19, 31, 32, 33]), (0, [2, 8, 10, 11, 15, 18, 19])]
def color_Peel_b0 (nf : Nat) (l2 : Int → Int → List Int → List Int → Int → Int → Option (Int × Int × Unit)) (k' : Int) (g0 : List Int → Int → Bool → Option (Int × Int × Unit)) (with' : List Int) (left : Int) (more : Bool) : Option (Int × Int × Unit) :=
  bif more then
    l2 k' left with' with' left 0
  else
    some ((left, 0, ()))
def color_Peel_b2 (nf : Nat) (k' : Int) (left : Int) (with' : List Int) (g0 : List Int → Int → Bool → Option (Int × Int × Unit)) (g2 : List Int → Int → Int → Option (Int × Int × Unit)) (with'2 : List Int) (left2 : Int) (t33 : Int) : Option (Int × Int × Unit) :=
  bif decide (t33 < (↑with'.length : Int)) then
    bif inb t33 with'2.length then
      bif decide (0 ≤ t33) then
        bif IntKind.u32.wrap (↑(BitVec.ofInt IntKind.u32.bits (shrI IntKind.u32 left2 t33) &&& BitVec.ofInt IntKind.u32.bits 1).toNat : Int) == 1 then
          Option.bind (bits_OnesCount32_f nf (IntKind.u32.wrap (↑(BitVec.ofInt IntKind.u32.bits (with'2.getD t33.toNat 0) &&& BitVec.ofInt IntKind.u32.bits left2).toNat : Int))) fun r2 =>
          bif decide (r2.fst < k') then
            bif decide (0 ≤ t33) then
              g2 with'2 (IntKind.u32.wrap (↑(BitVec.ofInt IntKind.u32.bits left2 &&& ~~~BitVec.ofInt IntKind.u32.bits (shlI IntKind.u32 1 t33)).toNat : Int)) (IntKind.i64.wrap (t33 + 1))
            else
              none
          else
            g2 with'2 left2 (IntKind.i64.wrap (t33 + 1))
        else
          g2 with'2 left2 (IntKind.i64.wrap (t33 + 1))
      else
        none
    else
      none
  else
    g0 with'2 left2 (left2 != left)
def color_Peel_p (nf : Nat) (l0 : Int → List Int → Int → Bool → Option (Int × Int × Unit)) (n' : Int) (pairs : List (Int × Int × Unit)) (k' : Int) : Option (Int × Int × Unit) :=
  Option.bind (color_clashes_f nf n' pairs) fun r =>
  bif r.snd.fst != 0 then
    some ((0, r.snd.fst, ()))
  else
    bif decide (k' < 0) then
      some ((0, 4, ()))
    else
      bif decide (0 ≤ n') then
        l0 k' r.fst (IntKind.u32.wrap (shlI IntKind.u32 1 n' - 1)) true
      else
        none
def color_Peel_l2 (nf : Nat) (k' : Int) (left : Int) (with' : List Int) (g0 : List Int → Int → Bool → Option (Int × Int × Unit)) : Nat → List Int → Int → Int → Option (Int × Int × Unit)
  | 0, _, _, _ => none
  | fu + 1, with'2, left2, t33 => color_Peel_b2 nf  k' left with' g0 (color_Peel_l2 nf k' left with' g0 fu) with'2 left2 t33
def color_Peel_l0 (nf : Nat) (k' : Int) : Nat → List Int → Int → Bool → Option (Int × Int × Unit)
  | 0, _, _, _ => none
  | fu + 1, with', left, more => color_Peel_b0 nf (fun _ p1 p2 v0 v1 v2 => color_Peel_l2 nf k' p1 p2 (fun with' left more => color_Peel_l0 nf k'  fu with' left more) nf v0 v1 v2) k'  (color_Peel_l0 nf k'  fu) with' left more
def color_Peel_f (nf : Nat) (n' : Int) (pairs : List (Int × Int × Unit)) (k' : Int) : Option (Int × Int × Unit) := color_Peel_p nf (fun p0 v0 v1 v2 => color_Peel_l0 nf p0 nf v0 v1 v2) n' pairs k'
noncomputable def color_Peel_L0 (nf : Nat) : LC (Int × Int × Unit) := theL (findL tab (color_Peel_phi nf) (fun _ F => iter nf F) color_Peel_keep 0 0 (codeOf Try.f13) (fin [(Ty.int IntKind.u32, Md.bor false true), (Ty.int IntKind.i64, Md.bor false true)] Try.f13.results.toList) (fun _ _ => none) (fin [(Ty.int IntKind.u32, Md.bor false true), (Ty.int IntKind.i64, Md.bor false true)] Try.f13.results.toList))
def color_Peel_m0 (k' : Int) (with' : List Int) (left : Int) (more : Bool) : St := ⟨fresh, [(2, AV.v (Ty.int IntKind.i64) (Md.bor false true) k'), (8, AV.ow 500008 (Ty.int IntKind.u32).sl (Md.own false (Md.bor false false)) with'), (10, AV.v (Ty.int IntKind.u32) (Md.bor false true) left), (11, AV.v Ty.bool (Md.bor false true) more), (15, AV.dead), (18, AV.dead), (19, AV.dead)]⟩
noncomputable def color_Peel_L2 (nf : Nat) (G0 : St → Option (Int × Int × Unit)) : LC (Int × Int × Unit) := theL (findL tab (color_Peel_phi nf) (fun _ F => iter nf F) color_Peel_keep 2 0 (color_Peel_L0 nf ).c (fun st => norm (color_Peel_keep 0) st G0) (color_Peel_L0 nf ).Kx (color_Peel_L0 nf ).Kr)
def color_Peel_m2 (k' : Int) (left : Int) (with' : List Int) (with'2 : List Int) (left2 : Int) (t33 : Int) : St := ⟨fresh, [(2, AV.v (Ty.int IntKind.i64) (Md.bor false true) k'), (8, AV.ow 500008 (Ty.int IntKind.u32).sl (Md.own false (Md.bor false false)) with'2), (10, AV.v (Ty.int IntKind.u32) (Md.bor false true) left2), (12, AV.v (Ty.int IntKind.u32) (Md.bor false true) left), (15, AV.dead), (18, AV.dead), (19, AV.dead), (31, AV.al 8 500008 []), (32, AV.v (Ty.int IntKind.i64) (Md.bor false true) (↑with'.length : Int)), (33, AV.v (Ty.int IntKind.i64) (Md.bor false true) t33)]⟩
theorem color_Peel_h2 (nf : Nat) (G0 : St → Option (Int × Int × Unit)) (k' : Int) (left : Int) (with' : List Int) (fu : Nat) (with'2 : List Int) (left2 : Int) (t33 : Int) : iter (fu + 1) (LC.F tab (color_Peel_phi nf) (fun _ F => iter nf F) color_Peel_keep 2 (color_Peel_L2 nf G0)) (color_Peel_m2 k' left with' with'2 left2 t33) = color_Peel_b2 nf  k' left with' (fun with' left more => G0 (color_Peel_m0 k' with' left more)) (fun with'2 left2 t33 => iter fu (LC.F tab (color_Peel_phi nf) (fun _ F => iter nf F) color_Peel_keep 2 (color_Peel_L2 nf G0)) (color_Peel_m2 k' left with' with'2 left2 t33)) with'2 left2 t33 := by kernel_rfl
theorem color_Peel_e2 (nf : Nat) (G0 : St → Option (Int × Int × Unit)) (k' : Int) (left : Int) (with' : List Int) : ∀ (fu : Nat) (with'2 : List Int) (left2 : Int) (t33 : Int), iter fu (LC.F tab (color_Peel_phi nf) (fun _ F => iter nf F) color_Peel_keep 2 (color_Peel_L2 nf G0)) (color_Peel_m2 k' left with' with'2 left2 t33) = color_Peel_l2 nf k' left with' (fun with' left more => G0 (color_Peel_m0 k' with' left more)) fu with'2 left2 t33 := by
  intro fu
  induction fu with
  | zero => intros; rfl
  | succ fu ih =>
    intro with'2 left2 t33
    rw [color_Peel_h2 nf G0 k' left with' fu with'2 left2 t33]
    simp only [ih]
    rfl
theorem color_Peel_h0 (nf : Nat)  (k' : Int) (fu : Nat) (with' : List Int) (left : Int) (more : Bool) : iter (fu + 1) (LC.F tab (color_Peel_phi nf) (fun _ F => iter nf F) color_Peel_keep 0 (color_Peel_L0 nf )) (color_Peel_m0 k' with' left more) = color_Peel_b0 nf (fun _ p1 p2 v0 v1 v2 => iter nf (LC.F tab (color_Peel_phi nf) (fun _ F => iter nf F) color_Peel_keep 2 (color_Peel_L2 nf (iter fu (LC.F tab (color_Peel_phi nf) (fun _ F => iter nf F) color_Peel_keep 0 (color_Peel_L0 nf ))))) (color_Peel_m2 k' p1 p2 v0 v1 v2)) k'  (fun with' left more => iter fu (LC.F tab (color_Peel_phi nf) (fun _ F => iter nf F) color_Peel_keep 0 (color_Peel_L0 nf )) (color_Peel_m0 k' with' left more)) with' left more := by kernel_rfl
theorem color_Peel_e0 (nf : Nat)  (k' : Int) : ∀ (fu : Nat) (with' : List Int) (left : Int) (more : Bool), iter fu (LC.F tab (color_Peel_phi nf) (fun _ F => iter nf F) color_Peel_keep 0 (color_Peel_L0 nf )) (color_Peel_m0 k' with' left more) = color_Peel_l0 nf k'  fu with' left more := by
  intro fu
  induction fu with
  | zero => intros; rfl
  | succ fu ih =>
    intro with' left more
    rw [color_Peel_h0 nf  k' fu with' left more]
    simp only [ih, color_Peel_e2]
    rfl
theorem color_Peel_eq (nf : Nat) (n' : Int) (pairs : List (Int × Int × Unit)) (k' : Int) : runF tab (color_Peel_phi nf) color_Peel_keep nf [PT.val (Ty.int IntKind.i64) (Md.bor true false), PT.val ((Ty.int IntKind.i64).pair ((Ty.int IntKind.i64).pair Ty.unit)).sl (Md.bor true false), PT.val (Ty.int IntKind.i64) (Md.bor true false)] [(Ty.int IntKind.u32, Md.bor false true), (Ty.int IntKind.i64, Md.bor false true)] Try.f13.results.toList (codeOf Try.f13) ⟨n', pairs, k', ()⟩ = color_Peel_f nf n' pairs k' := by
  have h : runF tab (color_Peel_phi nf) color_Peel_keep nf [PT.val (Ty.int IntKind.i64) (Md.bor true false), PT.val ((Ty.int IntKind.i64).pair ((Ty.int IntKind.i64).pair Ty.unit)).sl (Md.bor true false), PT.val (Ty.int IntKind.i64) (Md.bor true false)] [(Ty.int IntKind.u32, Md.bor false true), (Ty.int IntKind.i64, Md.bor false true)] Try.f13.results.toList (codeOf Try.f13) ⟨n', pairs, k', ()⟩ = color_Peel_p nf (fun p0 v0 v1 v2 => iter nf (LC.F tab (color_Peel_phi nf) (fun _ F => iter nf F) color_Peel_keep 0 (color_Peel_L0 nf)) (color_Peel_m0 p0 v0 v1 v2)) n' pairs k' := by kernel_rfl
  rw [h]
  simp only [color_Peel_e0]
  rfl
def color_Peel_F (nf : Nat) (x : denPs [.val (.int .i64) (.bor true false), .val (.sl (.pair (.int .i64) (.pair (.int .i64) (.unit)))) (.bor true false), .val (.int .i64) (.bor true false)]) : Option (denL [(.int .u32, .bor false true), (.int .i64, .bor false true)]) := color_Peel_f nf x.1 x.2.1 x.2.2.1
def color_Peel_C (nf : Nat) : Contract := ⟨[.val (.int .i64) (.bor true false), .val (.sl (.pair (.int .i64) (.pair (.int .i64) (.unit)))) (.bor true false), .val (.int .i64) (.bor true false)], [(.int .u32, .bor false true), (.int .i64, .bor false true)], color_Peel_F nf⟩
theorem color_Peel_ok : FnOK Try.prog 13 := ⟨Try.f13, codeOf Try.f13, Try.func13, by kernel_rfl, by kernel_rfl⟩
theorem color_Peel_holds (nf : Nat) : Contract.Holds Try.prog 13 (color_Peel_C nf) :=
  fn_holds (Φ := color_Peel_phi nf) (keep := color_Peel_keep) (n := nf) ⟨tabs.1, tabs.2, (ctx_cons color_clashes_ok (color_clashes_holds nf) (ctx_cons bits_OnesCount32_ok (bits_OnesCount32_holds nf) ctx_nil)), mixed⟩ (fn := Try.f13) ⟨Try.func13, by kernel_rfl, by kernel_rfl, by kernel_rfl⟩ (fun x => color_Peel_eq nf x.1 x.2.1 x.2.2.1)

/-! codemason codemasonref.Inside -/
def ref_Inside_phi (nf : Nat) : Nat → Option Contract := lookC []
def ref_Inside_keep : Nat → List Nat := lookK [(0, [0, 1, 7, 8, 9])]
def ref_Inside_b0 (nf : Nat) (n' : Int) (l' : List Int) (g0 : Int → Option (Bool × Unit)) (t9 : Int) : Option (Bool × Unit) :=
  bif decide (t9 < (↑l'.length : Int)) then
    bif inb t9 l'.length then
      bif decide (l'.getD t9.toNat 0 < 0) then
        some ((false, ()))
      else
        bif decide (l'.getD t9.toNat 0 ≥ n') then
          some ((false, ()))
        else
          g0 (IntKind.i64.wrap (t9 + 1))
    else
      none
  else
    some ((true, ()))
def ref_Inside_p (nf : Nat) (l0 : Int → List Int → Int → Option (Bool × Unit)) (n' : Int) (l' : List Int) : Option (Bool × Unit) :=
  l0 n' l' 0
def ref_Inside_l0 (nf : Nat) (n' : Int) (l' : List Int) : Nat → Int → Option (Bool × Unit)
  | 0, _ => none
  | fu + 1, t9 => ref_Inside_b0 nf  n' l'  (ref_Inside_l0 nf n' l'  fu) t9
def ref_Inside_f (nf : Nat) (n' : Int) (l' : List Int) : Option (Bool × Unit) := ref_Inside_p nf (fun p0 p1 v0 => ref_Inside_l0 nf p0 p1 nf v0) n' l'
noncomputable def ref_Inside_L0 (nf : Nat) : LC (Bool × Unit) := theL (findL tab (ref_Inside_phi nf) (fun _ F => iter nf F) ref_Inside_keep 0 0 (codeOf Try.f39) (fin [(Ty.bool, Md.bor false true)] Try.f39.results.toList) (fun _ _ => none) (fin [(Ty.bool, Md.bor false true)] Try.f39.results.toList))
def ref_Inside_m0 (n' : Int) (l' : List Int) (t9 : Int) : St := ⟨fresh, [(0, AV.v (Ty.int IntKind.i64) (Md.bor false true) n'), (1, AV.v (Ty.int IntKind.i64).sl (Md.bor true false) l'), (7, AV.v (Ty.int IntKind.i64).sl (Md.bor true false) l'), (8, AV.v (Ty.int IntKind.i64) (Md.bor false true) (↑l'.length : Int)), (9, AV.v (Ty.int IntKind.i64) (Md.bor false true) t9)]⟩
theorem ref_Inside_h0 (nf : Nat)  (n' : Int) (l' : List Int) (fu : Nat) (t9 : Int) : iter (fu + 1) (LC.F tab (ref_Inside_phi nf) (fun _ F => iter nf F) ref_Inside_keep 0 (ref_Inside_L0 nf )) (ref_Inside_m0 n' l' t9) = ref_Inside_b0 nf  n' l'  (fun t9 => iter fu (LC.F tab (ref_Inside_phi nf) (fun _ F => iter nf F) ref_Inside_keep 0 (ref_Inside_L0 nf )) (ref_Inside_m0 n' l' t9)) t9 := by kernel_rfl
theorem ref_Inside_e0 (nf : Nat)  (n' : Int) (l' : List Int) : ∀ (fu : Nat) (t9 : Int), iter fu (LC.F tab (ref_Inside_phi nf) (fun _ F => iter nf F) ref_Inside_keep 0 (ref_Inside_L0 nf )) (ref_Inside_m0 n' l' t9) = ref_Inside_l0 nf n' l'  fu t9 := by
  intro fu
  induction fu with
  | zero => intros; rfl
  | succ fu ih =>
    intro t9
    rw [ref_Inside_h0 nf  n' l' fu t9]
    simp only [ih]
    rfl
theorem ref_Inside_eq (nf : Nat) (n' : Int) (l' : List Int) : runF tab (ref_Inside_phi nf) ref_Inside_keep nf [PT.val (Ty.int IntKind.i64) (Md.bor true false), PT.val (Ty.int IntKind.i64).sl (Md.bor true false)] [(Ty.bool, Md.bor false true)] Try.f39.results.toList (codeOf Try.f39) ⟨n', l', ()⟩ = ref_Inside_f nf n' l' := by
  have h : runF tab (ref_Inside_phi nf) ref_Inside_keep nf [PT.val (Ty.int IntKind.i64) (Md.bor true false), PT.val (Ty.int IntKind.i64).sl (Md.bor true false)] [(Ty.bool, Md.bor false true)] Try.f39.results.toList (codeOf Try.f39) ⟨n', l', ()⟩ = ref_Inside_p nf (fun p0 p1 v0 => iter nf (LC.F tab (ref_Inside_phi nf) (fun _ F => iter nf F) ref_Inside_keep 0 (ref_Inside_L0 nf)) (ref_Inside_m0 p0 p1 v0)) n' l' := by kernel_rfl
  rw [h]
  simp only [ref_Inside_e0]
  rfl
def ref_Inside_F (nf : Nat) (x : denPs [.val (.int .i64) (.bor true false), .val (.sl (.int .i64)) (.bor true false)]) : Option (denL [(.bool, .bor false true)]) := ref_Inside_f nf x.1 x.2.1
def ref_Inside_C (nf : Nat) : Contract := ⟨[.val (.int .i64) (.bor true false), .val (.sl (.int .i64)) (.bor true false)], [(.bool, .bor false true)], ref_Inside_F nf⟩
theorem ref_Inside_ok : FnOK Try.prog 39 := ⟨Try.f39, codeOf Try.f39, Try.func39, by kernel_rfl, by kernel_rfl⟩
theorem ref_Inside_holds (nf : Nat) : Contract.Holds Try.prog 39 (ref_Inside_C nf) :=
  fn_holds (Φ := ref_Inside_phi nf) (keep := ref_Inside_keep) (n := nf) ⟨tabs.1, tabs.2, ctx_nil, mixed⟩ (fn := Try.f39) ⟨Try.func39, by kernel_rfl, by kernel_rfl, by kernel_rfl⟩ (fun x => ref_Inside_eq nf x.1 x.2.1)

/-! codemason codemasonref.ClashCheck -/
def ref_ClashCheck_phi (nf : Nat) : Nat → Option Contract := lookC [(39, ref_Inside_C nf)]
def ref_ClashCheck_keep : Nat → List Nat := lookK [(2, [1, 35, 36, 37]), (0, [0, 1, 20, 21, 22])]
def ref_ClashCheck_b0 (nf : Nat) (l2 : List (Int × Int × Unit) → Int → Option (Int × Unit)) (n' : Int) (pairs : List (Int × Int × Unit)) (g0 : Int → Option (Int × Unit)) (t22 : Int) : Option (Int × Unit) :=
  bif decide (t22 < (↑pairs.length : Int)) then
    bif inb t22 pairs.length then
      Option.bind (ref_Inside_f nf n' ([(pairs.getD t22.toNat (0, 0, ())).fst, (pairs.getD t22.toNat (0, 0, ())).snd.fst])) fun r =>
      bif !r.fst then
        some ((2, ()))
      else
        g0 (IntKind.i64.wrap (t22 + 1))
    else
      none
  else
    l2 pairs 0
def ref_ClashCheck_b2 (nf : Nat) (pairs : List (Int × Int × Unit)) (g2 : Int → Option (Int × Unit)) (t37 : Int) : Option (Int × Unit) :=
  bif decide (t37 < (↑pairs.length : Int)) then
    bif inb t37 pairs.length then
      bif (pairs.getD t37.toNat (0, 0, ())).fst == (pairs.getD t37.toNat (0, 0, ())).snd.fst then
        some ((3, ()))
      else
        g2 (IntKind.i64.wrap (t37 + 1))
    else
      none
  else
    some ((0, ()))
def ref_ClashCheck_p (nf : Nat) (l0 : Int → List (Int × Int × Unit) → Int → Option (Int × Unit)) (n' : Int) (pairs : List (Int × Int × Unit)) : Option (Int × Unit) :=
  bif decide (n' < 1) then
    some ((1, ()))
  else
    bif decide (n' > 8) then
      some ((1, ()))
    else
      bif decide ((↑pairs.length : Int) > 28) then
        some ((1, ()))
      else
        l0 n' pairs 0
def ref_ClashCheck_l2 (nf : Nat) (pairs : List (Int × Int × Unit)) : Nat → Int → Option (Int × Unit)
  | 0, _ => none
  | fu + 1, t37 => ref_ClashCheck_b2 nf  pairs  (ref_ClashCheck_l2 nf pairs  fu) t37
def ref_ClashCheck_l0 (nf : Nat) (n' : Int) (pairs : List (Int × Int × Unit)) : Nat → Int → Option (Int × Unit)
  | 0, _ => none
  | fu + 1, t22 => ref_ClashCheck_b0 nf (fun _ v0 => ref_ClashCheck_l2 nf pairs  nf v0) n' pairs  (ref_ClashCheck_l0 nf n' pairs  fu) t22
def ref_ClashCheck_f (nf : Nat) (n' : Int) (pairs : List (Int × Int × Unit)) : Option (Int × Unit) := ref_ClashCheck_p nf (fun p0 p1 v0 => ref_ClashCheck_l0 nf p0 p1 nf v0) n' pairs
noncomputable def ref_ClashCheck_L0 (nf : Nat) : LC (Int × Unit) := theL (findL tab (ref_ClashCheck_phi nf) (fun _ F => iter nf F) ref_ClashCheck_keep 0 0 (codeOf Try.f14) (fin [(Ty.int IntKind.i64, Md.bor false true)] Try.f14.results.toList) (fun _ _ => none) (fin [(Ty.int IntKind.i64, Md.bor false true)] Try.f14.results.toList))
def ref_ClashCheck_m0 (n' : Int) (pairs : List (Int × Int × Unit)) (t22 : Int) : St := ⟨fresh, [(0, AV.v (Ty.int IntKind.i64) (Md.bor false true) n'), (1, AV.v ((Ty.int IntKind.i64).pair ((Ty.int IntKind.i64).pair Ty.unit)).sl (Md.bor true false) pairs), (20, AV.v ((Ty.int IntKind.i64).pair ((Ty.int IntKind.i64).pair Ty.unit)).sl (Md.bor true false) pairs), (21, AV.v (Ty.int IntKind.i64) (Md.bor false true) (↑pairs.length : Int)), (22, AV.v (Ty.int IntKind.i64) (Md.bor false true) t22)]⟩
noncomputable def ref_ClashCheck_L2 (nf : Nat) : LC (Int × Unit) := theL (findL tab (ref_ClashCheck_phi nf) (fun _ F => iter nf F) ref_ClashCheck_keep 2 0 (codeOf Try.f14) (fin [(Ty.int IntKind.i64, Md.bor false true)] Try.f14.results.toList) (fun _ _ => none) (fin [(Ty.int IntKind.i64, Md.bor false true)] Try.f14.results.toList))
def ref_ClashCheck_m2 (pairs : List (Int × Int × Unit)) (t37 : Int) : St := ⟨fresh, [(1, AV.v ((Ty.int IntKind.i64).pair ((Ty.int IntKind.i64).pair Ty.unit)).sl (Md.bor true false) pairs), (35, AV.v ((Ty.int IntKind.i64).pair ((Ty.int IntKind.i64).pair Ty.unit)).sl (Md.bor true false) pairs), (36, AV.v (Ty.int IntKind.i64) (Md.bor false true) (↑pairs.length : Int)), (37, AV.v (Ty.int IntKind.i64) (Md.bor false true) t37)]⟩
theorem ref_ClashCheck_h2 (nf : Nat)  (pairs : List (Int × Int × Unit)) (fu : Nat) (t37 : Int) : iter (fu + 1) (LC.F tab (ref_ClashCheck_phi nf) (fun _ F => iter nf F) ref_ClashCheck_keep 2 (ref_ClashCheck_L2 nf )) (ref_ClashCheck_m2 pairs t37) = ref_ClashCheck_b2 nf  pairs  (fun t37 => iter fu (LC.F tab (ref_ClashCheck_phi nf) (fun _ F => iter nf F) ref_ClashCheck_keep 2 (ref_ClashCheck_L2 nf )) (ref_ClashCheck_m2 pairs t37)) t37 := by kernel_rfl
theorem ref_ClashCheck_e2 (nf : Nat)  (pairs : List (Int × Int × Unit)) : ∀ (fu : Nat) (t37 : Int), iter fu (LC.F tab (ref_ClashCheck_phi nf) (fun _ F => iter nf F) ref_ClashCheck_keep 2 (ref_ClashCheck_L2 nf )) (ref_ClashCheck_m2 pairs t37) = ref_ClashCheck_l2 nf pairs  fu t37 := by
  intro fu
  induction fu with
  | zero => intros; rfl
  | succ fu ih =>
    intro t37
    rw [ref_ClashCheck_h2 nf  pairs fu t37]
    simp only [ih]
    rfl
theorem ref_ClashCheck_h0 (nf : Nat)  (n' : Int) (pairs : List (Int × Int × Unit)) (fu : Nat) (t22 : Int) : iter (fu + 1) (LC.F tab (ref_ClashCheck_phi nf) (fun _ F => iter nf F) ref_ClashCheck_keep 0 (ref_ClashCheck_L0 nf )) (ref_ClashCheck_m0 n' pairs t22) = ref_ClashCheck_b0 nf (fun _ v0 => iter nf (LC.F tab (ref_ClashCheck_phi nf) (fun _ F => iter nf F) ref_ClashCheck_keep 2 (ref_ClashCheck_L2 nf )) (ref_ClashCheck_m2 pairs v0)) n' pairs  (fun t22 => iter fu (LC.F tab (ref_ClashCheck_phi nf) (fun _ F => iter nf F) ref_ClashCheck_keep 0 (ref_ClashCheck_L0 nf )) (ref_ClashCheck_m0 n' pairs t22)) t22 := by kernel_rfl
theorem ref_ClashCheck_e0 (nf : Nat)  (n' : Int) (pairs : List (Int × Int × Unit)) : ∀ (fu : Nat) (t22 : Int), iter fu (LC.F tab (ref_ClashCheck_phi nf) (fun _ F => iter nf F) ref_ClashCheck_keep 0 (ref_ClashCheck_L0 nf )) (ref_ClashCheck_m0 n' pairs t22) = ref_ClashCheck_l0 nf n' pairs  fu t22 := by
  intro fu
  induction fu with
  | zero => intros; rfl
  | succ fu ih =>
    intro t22
    rw [ref_ClashCheck_h0 nf  n' pairs fu t22]
    simp only [ih, ref_ClashCheck_e2]
    rfl
theorem ref_ClashCheck_eq (nf : Nat) (n' : Int) (pairs : List (Int × Int × Unit)) : runF tab (ref_ClashCheck_phi nf) ref_ClashCheck_keep nf [PT.val (Ty.int IntKind.i64) (Md.bor true false), PT.val ((Ty.int IntKind.i64).pair ((Ty.int IntKind.i64).pair Ty.unit)).sl (Md.bor true false)] [(Ty.int IntKind.i64, Md.bor false true)] Try.f14.results.toList (codeOf Try.f14) ⟨n', pairs, ()⟩ = ref_ClashCheck_f nf n' pairs := by
  have h : runF tab (ref_ClashCheck_phi nf) ref_ClashCheck_keep nf [PT.val (Ty.int IntKind.i64) (Md.bor true false), PT.val ((Ty.int IntKind.i64).pair ((Ty.int IntKind.i64).pair Ty.unit)).sl (Md.bor true false)] [(Ty.int IntKind.i64, Md.bor false true)] Try.f14.results.toList (codeOf Try.f14) ⟨n', pairs, ()⟩ = ref_ClashCheck_p nf (fun p0 p1 v0 => iter nf (LC.F tab (ref_ClashCheck_phi nf) (fun _ F => iter nf F) ref_ClashCheck_keep 0 (ref_ClashCheck_L0 nf)) (ref_ClashCheck_m0 p0 p1 v0)) n' pairs := by kernel_rfl
  rw [h]
  simp only [ref_ClashCheck_e0]
  rfl
def ref_ClashCheck_F (nf : Nat) (x : denPs [.val (.int .i64) (.bor true false), .val (.sl (.pair (.int .i64) (.pair (.int .i64) (.unit)))) (.bor true false)]) : Option (denL [(.int .i64, .bor false true)]) := ref_ClashCheck_f nf x.1 x.2.1
def ref_ClashCheck_C (nf : Nat) : Contract := ⟨[.val (.int .i64) (.bor true false), .val (.sl (.pair (.int .i64) (.pair (.int .i64) (.unit)))) (.bor true false)], [(.int .i64, .bor false true)], ref_ClashCheck_F nf⟩
theorem ref_ClashCheck_ok : FnOK Try.prog 14 := ⟨Try.f14, codeOf Try.f14, Try.func14, by kernel_rfl, by kernel_rfl⟩
theorem ref_ClashCheck_holds (nf : Nat) : Contract.Holds Try.prog 14 (ref_ClashCheck_C nf) :=
  fn_holds (Φ := ref_ClashCheck_phi nf) (keep := ref_ClashCheck_keep) (n := nf) ⟨tabs.1, tabs.2, (ctx_cons ref_Inside_ok (ref_Inside_holds nf) ctx_nil), mixed⟩ (fn := Try.f14) ⟨Try.func14, by kernel_rfl, by kernel_rfl, by kernel_rfl⟩ (fun x => ref_ClashCheck_eq nf x.1 x.2.1)

/-! codemason codemasonref.Bit -/
def ref_Bit_phi (nf : Nat) : Nat → Option Contract := lookC []
def ref_Bit_keep : Nat → List Nat := lookK []
def ref_Bit_p (nf : Nat)  (w : Int) (i : Int) : Option (Bool × Unit) :=
  bif decide (i ≥ 0) then
    bif decide (i < 32) then
      bif decide (0 ≤ IntKind.u64.wrap i) then
        some ((IntKind.u32.wrap (↑(BitVec.ofInt IntKind.u32.bits w &&& BitVec.ofInt IntKind.u32.bits (shlI IntKind.u32 1 (IntKind.u64.wrap i))).toNat : Int) != 0, ()))
      else
        none
    else
      some ((false, ()))
  else
    some ((false, ()))
def ref_Bit_f (nf : Nat) (w : Int) (i : Int) : Option (Bool × Unit) := ref_Bit_p nf  w i
theorem ref_Bit_eq (nf : Nat) (w : Int) (i : Int) : runF tab (ref_Bit_phi nf) ref_Bit_keep nf [PT.val (Ty.int IntKind.u32) (Md.bor true false), PT.val (Ty.int IntKind.i64) (Md.bor true false)] [(Ty.bool, Md.bor false true)] Try.f15.results.toList (codeOf Try.f15) ⟨w, i, ()⟩ = ref_Bit_f nf w i := by
  have h : runF tab (ref_Bit_phi nf) ref_Bit_keep nf [PT.val (Ty.int IntKind.u32) (Md.bor true false), PT.val (Ty.int IntKind.i64) (Md.bor true false)] [(Ty.bool, Md.bor false true)] Try.f15.results.toList (codeOf Try.f15) ⟨w, i, ()⟩ = ref_Bit_p nf  w i := by kernel_rfl
  exact h
def ref_Bit_F (nf : Nat) (x : denPs [.val (.int .u32) (.bor true false), .val (.int .i64) (.bor true false)]) : Option (denL [(.bool, .bor false true)]) := ref_Bit_f nf x.1 x.2.1
def ref_Bit_C (nf : Nat) : Contract := ⟨[.val (.int .u32) (.bor true false), .val (.int .i64) (.bor true false)], [(.bool, .bor false true)], ref_Bit_F nf⟩
theorem ref_Bit_ok : FnOK Try.prog 15 := ⟨Try.f15, codeOf Try.f15, Try.func15, by kernel_rfl, by kernel_rfl⟩
theorem ref_Bit_holds (nf : Nat) : Contract.Holds Try.prog 15 (ref_Bit_C nf) :=
  fn_holds (Φ := ref_Bit_phi nf) (keep := ref_Bit_keep) (n := nf) ⟨tabs.1, tabs.2, ctx_nil, mixed⟩ (fn := Try.f15) ⟨Try.func15, by kernel_rfl, by kernel_rfl, by kernel_rfl⟩ (fun x => ref_Bit_eq nf x.1 x.2.1)

/-! codemason codemasonref.Clash -/
def ref_Clash_phi (nf : Nat) : Nat → Option Contract := lookC []
def ref_Clash_keep : Nat → List Nat := lookK [(0, [0, 1, 2, 9, 10, 11])]
def ref_Clash_b0 (nf : Nat) (pairs : List (Int × Int × Unit)) (a : Int) (b : Int) (g0 : Int → Option (Bool × Unit)) (t11 : Int) : Option (Bool × Unit) :=
  bif decide (t11 < (↑pairs.length : Int)) then
    bif inb t11 pairs.length then
      bif (pairs.getD t11.toNat (0, 0, ())).fst == a then
        bif (pairs.getD t11.toNat (0, 0, ())).snd.fst == b then
          some ((true, ()))
        else
          bif (pairs.getD t11.toNat (0, 0, ())).fst == b then
            bif (pairs.getD t11.toNat (0, 0, ())).snd.fst == a then
              some ((true, ()))
            else
              g0 (IntKind.i64.wrap (t11 + 1))
          else
            g0 (IntKind.i64.wrap (t11 + 1))
      else
        bif (pairs.getD t11.toNat (0, 0, ())).fst == b then
          bif (pairs.getD t11.toNat (0, 0, ())).snd.fst == a then
            some ((true, ()))
          else
            g0 (IntKind.i64.wrap (t11 + 1))
        else
          g0 (IntKind.i64.wrap (t11 + 1))
    else
      none
  else
    some ((false, ()))
def ref_Clash_p (nf : Nat) (l0 : List (Int × Int × Unit) → Int → Int → Int → Option (Bool × Unit)) (pairs : List (Int × Int × Unit)) (a : Int) (b : Int) : Option (Bool × Unit) :=
  l0 pairs a b 0
def ref_Clash_l0 (nf : Nat) (pairs : List (Int × Int × Unit)) (a : Int) (b : Int) : Nat → Int → Option (Bool × Unit)
  | 0, _ => none
  | fu + 1, t11 => ref_Clash_b0 nf  pairs a b  (ref_Clash_l0 nf pairs a b  fu) t11
def ref_Clash_f (nf : Nat) (pairs : List (Int × Int × Unit)) (a : Int) (b : Int) : Option (Bool × Unit) := ref_Clash_p nf (fun p0 p1 p2 v0 => ref_Clash_l0 nf p0 p1 p2 nf v0) pairs a b
noncomputable def ref_Clash_L0 (nf : Nat) : LC (Bool × Unit) := theL (findL tab (ref_Clash_phi nf) (fun _ F => iter nf F) ref_Clash_keep 0 0 (codeOf Try.f16) (fin [(Ty.bool, Md.bor false true)] Try.f16.results.toList) (fun _ _ => none) (fin [(Ty.bool, Md.bor false true)] Try.f16.results.toList))
def ref_Clash_m0 (pairs : List (Int × Int × Unit)) (a : Int) (b : Int) (t11 : Int) : St := ⟨fresh, [(0, AV.v ((Ty.int IntKind.i64).pair ((Ty.int IntKind.i64).pair Ty.unit)).sl (Md.bor true false) pairs), (1, AV.v (Ty.int IntKind.i64) (Md.bor false true) a), (2, AV.v (Ty.int IntKind.i64) (Md.bor false true) b), (9, AV.v ((Ty.int IntKind.i64).pair ((Ty.int IntKind.i64).pair Ty.unit)).sl (Md.bor true false) pairs), (10, AV.v (Ty.int IntKind.i64) (Md.bor false true) (↑pairs.length : Int)), (11, AV.v (Ty.int IntKind.i64) (Md.bor false true) t11)]⟩
theorem ref_Clash_h0 (nf : Nat)  (pairs : List (Int × Int × Unit)) (a : Int) (b : Int) (fu : Nat) (t11 : Int) : iter (fu + 1) (LC.F tab (ref_Clash_phi nf) (fun _ F => iter nf F) ref_Clash_keep 0 (ref_Clash_L0 nf )) (ref_Clash_m0 pairs a b t11) = ref_Clash_b0 nf  pairs a b  (fun t11 => iter fu (LC.F tab (ref_Clash_phi nf) (fun _ F => iter nf F) ref_Clash_keep 0 (ref_Clash_L0 nf )) (ref_Clash_m0 pairs a b t11)) t11 := by kernel_rfl
theorem ref_Clash_e0 (nf : Nat)  (pairs : List (Int × Int × Unit)) (a : Int) (b : Int) : ∀ (fu : Nat) (t11 : Int), iter fu (LC.F tab (ref_Clash_phi nf) (fun _ F => iter nf F) ref_Clash_keep 0 (ref_Clash_L0 nf )) (ref_Clash_m0 pairs a b t11) = ref_Clash_l0 nf pairs a b  fu t11 := by
  intro fu
  induction fu with
  | zero => intros; rfl
  | succ fu ih =>
    intro t11
    rw [ref_Clash_h0 nf  pairs a b fu t11]
    simp only [ih]
    rfl
theorem ref_Clash_eq (nf : Nat) (pairs : List (Int × Int × Unit)) (a : Int) (b : Int) : runF tab (ref_Clash_phi nf) ref_Clash_keep nf [PT.val ((Ty.int IntKind.i64).pair ((Ty.int IntKind.i64).pair Ty.unit)).sl (Md.bor true false), PT.val (Ty.int IntKind.i64) (Md.bor true false), PT.val (Ty.int IntKind.i64) (Md.bor true false)] [(Ty.bool, Md.bor false true)] Try.f16.results.toList (codeOf Try.f16) ⟨pairs, a, b, ()⟩ = ref_Clash_f nf pairs a b := by
  have h : runF tab (ref_Clash_phi nf) ref_Clash_keep nf [PT.val ((Ty.int IntKind.i64).pair ((Ty.int IntKind.i64).pair Ty.unit)).sl (Md.bor true false), PT.val (Ty.int IntKind.i64) (Md.bor true false), PT.val (Ty.int IntKind.i64) (Md.bor true false)] [(Ty.bool, Md.bor false true)] Try.f16.results.toList (codeOf Try.f16) ⟨pairs, a, b, ()⟩ = ref_Clash_p nf (fun p0 p1 p2 v0 => iter nf (LC.F tab (ref_Clash_phi nf) (fun _ F => iter nf F) ref_Clash_keep 0 (ref_Clash_L0 nf)) (ref_Clash_m0 p0 p1 p2 v0)) pairs a b := by kernel_rfl
  rw [h]
  simp only [ref_Clash_e0]
  rfl
def ref_Clash_F (nf : Nat) (x : denPs [.val (.sl (.pair (.int .i64) (.pair (.int .i64) (.unit)))) (.bor true false), .val (.int .i64) (.bor true false), .val (.int .i64) (.bor true false)]) : Option (denL [(.bool, .bor false true)]) := ref_Clash_f nf x.1 x.2.1 x.2.2.1
def ref_Clash_C (nf : Nat) : Contract := ⟨[.val (.sl (.pair (.int .i64) (.pair (.int .i64) (.unit)))) (.bor true false), .val (.int .i64) (.bor true false), .val (.int .i64) (.bor true false)], [(.bool, .bor false true)], ref_Clash_F nf⟩
theorem ref_Clash_ok : FnOK Try.prog 16 := ⟨Try.f16, codeOf Try.f16, Try.func16, by kernel_rfl, by kernel_rfl⟩
theorem ref_Clash_holds (nf : Nat) : Contract.Holds Try.prog 16 (ref_Clash_C nf) :=
  fn_holds (Φ := ref_Clash_phi nf) (keep := ref_Clash_keep) (n := nf) ⟨tabs.1, tabs.2, ctx_nil, mixed⟩ (fn := Try.f16) ⟨Try.func16, by kernel_rfl, by kernel_rfl, by kernel_rfl⟩ (fun x => ref_Clash_eq nf x.1 x.2.1 x.2.2.1)

/-! codemason codemasonlaw.ColorPeels -/
def law_ColorPeels_phi (nf : Nat) : Nat → Option Contract := lookC [(13, color_Peel_C nf), (14, ref_ClashCheck_C nf), (15, ref_Bit_C nf), (16, ref_Clash_C nf)]
def law_ColorPeels_keep : Nat → List Nat := lookK [(4, [0, 1, 2, 7, 8, 10, 11, 12, 13, 14, 15]), (2, [0, 1, 2, 7, 8, 10, 11, 12, 13]), (0, [0, 1, 2, 7, 8, 10, 11])]
def law_ColorPeels_b0 (nf : Nat) (l2 : Int → List (Int × Int × Unit) → Int → Int × Int × Unit → Int → Int → Bool → Int → Option (Bool × Unit)) (n' : Int) (pairs : List (Int × Int × Unit)) (k' : Int) (r : Int × Int × Unit) (g0 : Int → Int → Option (Bool × Unit)) (want : Int) (t : Int) : Option (Bool × Unit) :=
  bif decide (0 ≤ IntKind.u64.wrap n') then
    bif decide (t < shlI IntKind.u32 1 (IntKind.u64.wrap n')) then
      l2 n' pairs k' r want t true 0
    else
      bif r.snd.fst == 0 then
        some ((r.fst == want, ()))
      else
        some ((false, ()))
  else
    none
def law_ColorPeels_b2 (nf : Nat) (l4 : Int → List (Int × Int × Unit) → Int → Int × Int × Unit → Int → Int → Bool → Int → Int → Int → Option (Bool × Unit)) (n' : Int) (pairs : List (Int × Int × Unit)) (k' : Int) (r : Int × Int × Unit) (want : Int) (t : Int) (g0 : Int → Int → Option (Bool × Unit)) (g2 : Bool → Int → Option (Bool × Unit)) (ok : Bool) (i : Int) : Option (Bool × Unit) :=
  bif decide (i < n') then
    l4 n' pairs k' r want t ok i 0 0
  else
    bif ok then
      g0 (IntKind.u32.wrap (↑(BitVec.ofInt IntKind.u32.bits want ||| BitVec.ofInt IntKind.u32.bits t).toNat : Int)) (IntKind.u32.wrap (t + 1))
    else
      g0 want (IntKind.u32.wrap (t + 1))
def law_ColorPeels_b4 (nf : Nat) (n' : Int) (pairs : List (Int × Int × Unit)) (k' : Int) (r : Int × Int × Unit) (want : Int) (t : Int) (ok : Bool) (i : Int) (g2 : Bool → Int → Option (Bool × Unit)) (g0 : Int → Int → Option (Bool × Unit)) (g4 : Int → Int → Option (Bool × Unit)) (many : Int) (j : Int) : Option (Bool × Unit) :=
  bif decide (j < n') then
    Option.bind (ref_Bit_f nf t j) fun r3 =>
    bif r3.fst then
      Option.bind (ref_Clash_f nf pairs i j) fun r4 =>
      bif r4.fst then
        g4 (IntKind.i64.wrap (many + 1)) (IntKind.i64.wrap (j + 1))
      else
        g4 many (IntKind.i64.wrap (j + 1))
    else
      g4 many (IntKind.i64.wrap (j + 1))
  else
    bif ok then
      Option.bind (ref_Bit_f nf t i) fun r5 =>
      bif !r5.fst then
        g2 true (IntKind.i64.wrap (i + 1))
      else
        g2 (decide (many ≥ k')) (IntKind.i64.wrap (i + 1))
    else
      g2 false (IntKind.i64.wrap (i + 1))
def law_ColorPeels_p (nf : Nat) (l0 : Int → List (Int × Int × Unit) → Int → Int × Int × Unit → Int → Int → Option (Bool × Unit)) (n' : Int) (pairs : List (Int × Int × Unit)) (k' : Int) : Option (Bool × Unit) :=
  Option.bind (color_Peel_f nf n' pairs k') fun r =>
  Option.bind (ref_ClashCheck_f nf n' pairs) fun r2 =>
  bif r2.fst == 0 then
    bif decide (k' < 0) then
      bif r.snd.fst == 4 then
        some ((r.fst == 0, ()))
      else
        some ((false, ()))
    else
      bif r2.fst != 0 then
        bif r.snd.fst == r2.fst then
          some ((r.fst == 0, ()))
        else
          some ((false, ()))
      else
        l0 n' pairs k' r 0 0
  else
    bif r2.fst != 0 then
      bif r.snd.fst == r2.fst then
        some ((r.fst == 0, ()))
      else
        some ((false, ()))
    else
      l0 n' pairs k' r 0 0
def law_ColorPeels_l4 (nf : Nat) (n' : Int) (pairs : List (Int × Int × Unit)) (k' : Int) (r : Int × Int × Unit) (want : Int) (t : Int) (ok : Bool) (i : Int) (g2 : Bool → Int → Option (Bool × Unit)) (g0 : Int → Int → Option (Bool × Unit)) : Nat → Int → Int → Option (Bool × Unit)
  | 0, _, _ => none
  | fu + 1, many, j => law_ColorPeels_b4 nf  n' pairs k' r want t ok i g2 g0 (law_ColorPeels_l4 nf n' pairs k' r want t ok i g2 g0 fu) many j
def law_ColorPeels_l2 (nf : Nat) (n' : Int) (pairs : List (Int × Int × Unit)) (k' : Int) (r : Int × Int × Unit) (want : Int) (t : Int) (g0 : Int → Int → Option (Bool × Unit)) : Nat → Bool → Int → Option (Bool × Unit)
  | 0, _, _ => none
  | fu + 1, ok, i => law_ColorPeels_b2 nf (fun _ _ _ _ _ _ p6 p7 v0 v1 => law_ColorPeels_l4 nf n' pairs k' r want t p6 p7 (fun ok i => law_ColorPeels_l2 nf n' pairs k' r want t g0 fu ok i) g0 nf v0 v1) n' pairs k' r want t g0 (law_ColorPeels_l2 nf n' pairs k' r want t g0 fu) ok i
def law_ColorPeels_l0 (nf : Nat) (n' : Int) (pairs : List (Int × Int × Unit)) (k' : Int) (r : Int × Int × Unit) : Nat → Int → Int → Option (Bool × Unit)
  | 0, _, _ => none
  | fu + 1, want, t => law_ColorPeels_b0 nf (fun _ _ _ _ p4 p5 v0 v1 => law_ColorPeels_l2 nf n' pairs k' r p4 p5 (fun want t => law_ColorPeels_l0 nf n' pairs k' r  fu want t) nf v0 v1) n' pairs k' r  (law_ColorPeels_l0 nf n' pairs k' r  fu) want t
def law_ColorPeels_f (nf : Nat) (n' : Int) (pairs : List (Int × Int × Unit)) (k' : Int) : Option (Bool × Unit) := law_ColorPeels_p nf (fun p0 p1 p2 p3 v0 v1 => law_ColorPeels_l0 nf p0 p1 p2 p3 nf v0 v1) n' pairs k'
noncomputable def law_ColorPeels_L0 (nf : Nat) : LC (Bool × Unit) := theL (findL tab (law_ColorPeels_phi nf) (fun _ F => iter nf F) law_ColorPeels_keep 0 0 (codeOf Try.f4) (fin [(Ty.bool, Md.bor false true)] Try.f4.results.toList) (fun _ _ => none) (fin [(Ty.bool, Md.bor false true)] Try.f4.results.toList))
def law_ColorPeels_m0 (n' : Int) (pairs : List (Int × Int × Unit)) (k' : Int) (r : Int × Int × Unit) (want : Int) (t : Int) : St := ⟨fresh, [(0, AV.v (Ty.int IntKind.i64) (Md.bor false true) n'), (1, AV.v ((Ty.int IntKind.i64).pair ((Ty.int IntKind.i64).pair Ty.unit)).sl (Md.bor true false) pairs), (2, AV.v (Ty.int IntKind.i64) (Md.bor false true) k'), (7, AV.v (Ty.int IntKind.u32) (Md.bor false true) r.fst), (8, AV.v (Ty.int IntKind.i64) (Md.bor false true) r.snd.fst), (10, AV.v (Ty.int IntKind.u32) (Md.bor false true) want), (11, AV.v (Ty.int IntKind.u32) (Md.bor false true) t)]⟩
noncomputable def law_ColorPeels_L2 (nf : Nat) (G0 : St → Option (Bool × Unit)) : LC (Bool × Unit) := theL (findL tab (law_ColorPeels_phi nf) (fun _ F => iter nf F) law_ColorPeels_keep 2 0 (law_ColorPeels_L0 nf ).c (fun st => norm (law_ColorPeels_keep 0) st G0) (law_ColorPeels_L0 nf ).Kx (law_ColorPeels_L0 nf ).Kr)
def law_ColorPeels_m2 (n' : Int) (pairs : List (Int × Int × Unit)) (k' : Int) (r : Int × Int × Unit) (want : Int) (t : Int) (ok : Bool) (i : Int) : St := ⟨fresh, [(0, AV.v (Ty.int IntKind.i64) (Md.bor false true) n'), (1, AV.v ((Ty.int IntKind.i64).pair ((Ty.int IntKind.i64).pair Ty.unit)).sl (Md.bor true false) pairs), (2, AV.v (Ty.int IntKind.i64) (Md.bor false true) k'), (7, AV.v (Ty.int IntKind.u32) (Md.bor false true) r.fst), (8, AV.v (Ty.int IntKind.i64) (Md.bor false true) r.snd.fst), (10, AV.v (Ty.int IntKind.u32) (Md.bor false true) want), (11, AV.v (Ty.int IntKind.u32) (Md.bor false true) t), (12, AV.v Ty.bool (Md.bor false true) ok), (13, AV.v (Ty.int IntKind.i64) (Md.bor false true) i)]⟩
noncomputable def law_ColorPeels_L4 (nf : Nat) (G0 : St → Option (Bool × Unit)) (G2 : St → Option (Bool × Unit)) : LC (Bool × Unit) := theL (findL tab (law_ColorPeels_phi nf) (fun _ F => iter nf F) law_ColorPeels_keep 4 2 (law_ColorPeels_L2 nf G0).c (fun st => norm (law_ColorPeels_keep 2) st G2) (law_ColorPeels_L2 nf G0).Kx (law_ColorPeels_L2 nf G0).Kr)
def law_ColorPeels_m4 (n' : Int) (pairs : List (Int × Int × Unit)) (k' : Int) (r : Int × Int × Unit) (want : Int) (t : Int) (ok : Bool) (i : Int) (many : Int) (j : Int) : St := ⟨fresh, [(0, AV.v (Ty.int IntKind.i64) (Md.bor false true) n'), (1, AV.v ((Ty.int IntKind.i64).pair ((Ty.int IntKind.i64).pair Ty.unit)).sl (Md.bor true false) pairs), (2, AV.v (Ty.int IntKind.i64) (Md.bor false true) k'), (7, AV.v (Ty.int IntKind.u32) (Md.bor false true) r.fst), (8, AV.v (Ty.int IntKind.i64) (Md.bor false true) r.snd.fst), (10, AV.v (Ty.int IntKind.u32) (Md.bor false true) want), (11, AV.v (Ty.int IntKind.u32) (Md.bor false true) t), (12, AV.v Ty.bool (Md.bor false true) ok), (13, AV.v (Ty.int IntKind.i64) (Md.bor false true) i), (14, AV.v (Ty.int IntKind.i64) (Md.bor false true) many), (15, AV.v (Ty.int IntKind.i64) (Md.bor false true) j)]⟩
theorem law_ColorPeels_h4 (nf : Nat) (G0 : St → Option (Bool × Unit)) (G2 : St → Option (Bool × Unit)) (n' : Int) (pairs : List (Int × Int × Unit)) (k' : Int) (r : Int × Int × Unit) (want : Int) (t : Int) (ok : Bool) (i : Int) (fu : Nat) (many : Int) (j : Int) : iter (fu + 1) (LC.F tab (law_ColorPeels_phi nf) (fun _ F => iter nf F) law_ColorPeels_keep 4 (law_ColorPeels_L4 nf G0 G2)) (law_ColorPeels_m4 n' pairs k' r want t ok i many j) = law_ColorPeels_b4 nf  n' pairs k' r want t ok i (fun ok i => G2 (law_ColorPeels_m2 n' pairs k' r want t ok i)) (fun want t => G0 (law_ColorPeels_m0 n' pairs k' r want t)) (fun many j => iter fu (LC.F tab (law_ColorPeels_phi nf) (fun _ F => iter nf F) law_ColorPeels_keep 4 (law_ColorPeels_L4 nf G0 G2)) (law_ColorPeels_m4 n' pairs k' r want t ok i many j)) many j := by kernel_rfl
theorem law_ColorPeels_e4 (nf : Nat) (G0 : St → Option (Bool × Unit)) (G2 : St → Option (Bool × Unit)) (n' : Int) (pairs : List (Int × Int × Unit)) (k' : Int) (r : Int × Int × Unit) (want : Int) (t : Int) (ok : Bool) (i : Int) : ∀ (fu : Nat) (many : Int) (j : Int), iter fu (LC.F tab (law_ColorPeels_phi nf) (fun _ F => iter nf F) law_ColorPeels_keep 4 (law_ColorPeels_L4 nf G0 G2)) (law_ColorPeels_m4 n' pairs k' r want t ok i many j) = law_ColorPeels_l4 nf n' pairs k' r want t ok i (fun ok i => G2 (law_ColorPeels_m2 n' pairs k' r want t ok i)) (fun want t => G0 (law_ColorPeels_m0 n' pairs k' r want t)) fu many j := by
  intro fu
  induction fu with
  | zero => intros; rfl
  | succ fu ih =>
    intro many j
    rw [law_ColorPeels_h4 nf G0 G2 n' pairs k' r want t ok i fu many j]
    simp only [ih]
    rfl
theorem law_ColorPeels_h2 (nf : Nat) (G0 : St → Option (Bool × Unit)) (n' : Int) (pairs : List (Int × Int × Unit)) (k' : Int) (r : Int × Int × Unit) (want : Int) (t : Int) (fu : Nat) (ok : Bool) (i : Int) : iter (fu + 1) (LC.F tab (law_ColorPeels_phi nf) (fun _ F => iter nf F) law_ColorPeels_keep 2 (law_ColorPeels_L2 nf G0)) (law_ColorPeels_m2 n' pairs k' r want t ok i) = law_ColorPeels_b2 nf (fun _ _ _ _ _ _ p6 p7 v0 v1 => iter nf (LC.F tab (law_ColorPeels_phi nf) (fun _ F => iter nf F) law_ColorPeels_keep 4 (law_ColorPeels_L4 nf G0 (iter fu (LC.F tab (law_ColorPeels_phi nf) (fun _ F => iter nf F) law_ColorPeels_keep 2 (law_ColorPeels_L2 nf G0))))) (law_ColorPeels_m4 n' pairs k' r want t p6 p7 v0 v1)) n' pairs k' r want t (fun want t => G0 (law_ColorPeels_m0 n' pairs k' r want t)) (fun ok i => iter fu (LC.F tab (law_ColorPeels_phi nf) (fun _ F => iter nf F) law_ColorPeels_keep 2 (law_ColorPeels_L2 nf G0)) (law_ColorPeels_m2 n' pairs k' r want t ok i)) ok i := by kernel_rfl
theorem law_ColorPeels_e2 (nf : Nat) (G0 : St → Option (Bool × Unit)) (n' : Int) (pairs : List (Int × Int × Unit)) (k' : Int) (r : Int × Int × Unit) (want : Int) (t : Int) : ∀ (fu : Nat) (ok : Bool) (i : Int), iter fu (LC.F tab (law_ColorPeels_phi nf) (fun _ F => iter nf F) law_ColorPeels_keep 2 (law_ColorPeels_L2 nf G0)) (law_ColorPeels_m2 n' pairs k' r want t ok i) = law_ColorPeels_l2 nf n' pairs k' r want t (fun want t => G0 (law_ColorPeels_m0 n' pairs k' r want t)) fu ok i := by
  intro fu
  induction fu with
  | zero => intros; rfl
  | succ fu ih =>
    intro ok i
    rw [law_ColorPeels_h2 nf G0 n' pairs k' r want t fu ok i]
    simp only [ih, law_ColorPeels_e4]
    rfl
theorem law_ColorPeels_h0 (nf : Nat)  (n' : Int) (pairs : List (Int × Int × Unit)) (k' : Int) (r : Int × Int × Unit) (fu : Nat) (want : Int) (t : Int) : iter (fu + 1) (LC.F tab (law_ColorPeels_phi nf) (fun _ F => iter nf F) law_ColorPeels_keep 0 (law_ColorPeels_L0 nf )) (law_ColorPeels_m0 n' pairs k' r want t) = law_ColorPeels_b0 nf (fun _ _ _ _ p4 p5 v0 v1 => iter nf (LC.F tab (law_ColorPeels_phi nf) (fun _ F => iter nf F) law_ColorPeels_keep 2 (law_ColorPeels_L2 nf (iter fu (LC.F tab (law_ColorPeels_phi nf) (fun _ F => iter nf F) law_ColorPeels_keep 0 (law_ColorPeels_L0 nf ))))) (law_ColorPeels_m2 n' pairs k' r p4 p5 v0 v1)) n' pairs k' r  (fun want t => iter fu (LC.F tab (law_ColorPeels_phi nf) (fun _ F => iter nf F) law_ColorPeels_keep 0 (law_ColorPeels_L0 nf )) (law_ColorPeels_m0 n' pairs k' r want t)) want t := by kernel_rfl
theorem law_ColorPeels_e0 (nf : Nat)  (n' : Int) (pairs : List (Int × Int × Unit)) (k' : Int) (r : Int × Int × Unit) : ∀ (fu : Nat) (want : Int) (t : Int), iter fu (LC.F tab (law_ColorPeels_phi nf) (fun _ F => iter nf F) law_ColorPeels_keep 0 (law_ColorPeels_L0 nf )) (law_ColorPeels_m0 n' pairs k' r want t) = law_ColorPeels_l0 nf n' pairs k' r  fu want t := by
  intro fu
  induction fu with
  | zero => intros; rfl
  | succ fu ih =>
    intro want t
    rw [law_ColorPeels_h0 nf  n' pairs k' r fu want t]
    simp only [ih, law_ColorPeels_e2]
    rfl
theorem law_ColorPeels_eq (nf : Nat) (n' : Int) (pairs : List (Int × Int × Unit)) (k' : Int) : runF tab (law_ColorPeels_phi nf) law_ColorPeels_keep nf [PT.val (Ty.int IntKind.i64) (Md.bor true false), PT.val ((Ty.int IntKind.i64).pair ((Ty.int IntKind.i64).pair Ty.unit)).sl (Md.bor true false), PT.val (Ty.int IntKind.i64) (Md.bor true false)] [(Ty.bool, Md.bor false true)] Try.f4.results.toList (codeOf Try.f4) ⟨n', pairs, k', ()⟩ = law_ColorPeels_f nf n' pairs k' := by
  have h : runF tab (law_ColorPeels_phi nf) law_ColorPeels_keep nf [PT.val (Ty.int IntKind.i64) (Md.bor true false), PT.val ((Ty.int IntKind.i64).pair ((Ty.int IntKind.i64).pair Ty.unit)).sl (Md.bor true false), PT.val (Ty.int IntKind.i64) (Md.bor true false)] [(Ty.bool, Md.bor false true)] Try.f4.results.toList (codeOf Try.f4) ⟨n', pairs, k', ()⟩ = law_ColorPeels_p nf (fun p0 p1 p2 p3 v0 v1 => iter nf (LC.F tab (law_ColorPeels_phi nf) (fun _ F => iter nf F) law_ColorPeels_keep 0 (law_ColorPeels_L0 nf)) (law_ColorPeels_m0 p0 p1 p2 p3 v0 v1)) n' pairs k' := by kernel_rfl
  rw [h]
  simp only [law_ColorPeels_e0]
  rfl
def law_ColorPeels_F (nf : Nat) (x : denPs [.val (.int .i64) (.bor true false), .val (.sl (.pair (.int .i64) (.pair (.int .i64) (.unit)))) (.bor true false), .val (.int .i64) (.bor true false)]) : Option (denL [(.bool, .bor false true)]) := law_ColorPeels_f nf x.1 x.2.1 x.2.2.1
def law_ColorPeels_C (nf : Nat) : Contract := ⟨[.val (.int .i64) (.bor true false), .val (.sl (.pair (.int .i64) (.pair (.int .i64) (.unit)))) (.bor true false), .val (.int .i64) (.bor true false)], [(.bool, .bor false true)], law_ColorPeels_F nf⟩
theorem law_ColorPeels_ok : FnOK Try.prog 4 := ⟨Try.f4, codeOf Try.f4, Try.func4, by kernel_rfl, by kernel_rfl⟩
theorem law_ColorPeels_holds (nf : Nat) : Contract.Holds Try.prog 4 (law_ColorPeels_C nf) :=
  fn_holds (Φ := law_ColorPeels_phi nf) (keep := law_ColorPeels_keep) (n := nf) ⟨tabs.1, tabs.2, (ctx_cons color_Peel_ok (color_Peel_holds nf) (ctx_cons ref_ClashCheck_ok (ref_ClashCheck_holds nf) (ctx_cons ref_Bit_ok (ref_Bit_holds nf) (ctx_cons ref_Clash_ok (ref_Clash_holds nf) ctx_nil)))), mixed⟩ (fn := Try.f4) ⟨Try.func4, by kernel_rfl, by kernel_rfl, by kernel_rfl⟩ (fun x => law_ColorPeels_eq nf x.1 x.2.1 x.2.2.1)

/-! codemason color.all -/
def color_all_phi (nf : Nat) : Nat → Option Contract := lookC []
def color_all_keep : Nat → List Nat := lookK [(0, [0, 1, 7, 8, 9])]
def color_all_b0 (nf : Nat) (with' : List Int) (s : Int) (g0 : Int → Option (Bool × Unit)) (t9 : Int) : Option (Bool × Unit) :=
  bif decide (t9 < (↑with'.length : Int)) then
    bif inb t9 with'.length then
      bif decide (0 ≤ t9) then
        bif IntKind.u32.wrap (↑(BitVec.ofInt IntKind.u32.bits (shrI IntKind.u32 s t9) &&& BitVec.ofInt IntKind.u32.bits 1).toNat : Int) == 1 then
          bif decide (0 ≤ t9) then
            bif IntKind.u32.wrap (↑(BitVec.ofInt IntKind.u32.bits s &&& ~~~BitVec.ofInt IntKind.u32.bits (with'.getD t9.toNat 0)).toNat : Int) != shlI IntKind.u32 1 t9 then
              some ((false, ()))
            else
              g0 (IntKind.i64.wrap (t9 + 1))
          else
            none
        else
          g0 (IntKind.i64.wrap (t9 + 1))
      else
        none
    else
      none
  else
    some ((true, ()))
def color_all_p (nf : Nat) (l0 : List Int → Int → Int → Option (Bool × Unit)) (with' : List Int) (s : Int) : Option (Bool × Unit) :=
  l0 with' s 0
def color_all_l0 (nf : Nat) (with' : List Int) (s : Int) : Nat → Int → Option (Bool × Unit)
  | 0, _ => none
  | fu + 1, t9 => color_all_b0 nf  with' s  (color_all_l0 nf with' s  fu) t9
def color_all_f (nf : Nat) (with' : List Int) (s : Int) : Option (Bool × Unit) := color_all_p nf (fun p0 p1 v0 => color_all_l0 nf p0 p1 nf v0) with' s
noncomputable def color_all_L0 (nf : Nat) : LC (Bool × Unit) := theL (findL tab (color_all_phi nf) (fun _ F => iter nf F) color_all_keep 0 0 (codeOf Try.f40) (fin [(Ty.bool, Md.bor false true)] Try.f40.results.toList) (fun _ _ => none) (fin [(Ty.bool, Md.bor false true)] Try.f40.results.toList))
def color_all_m0 (with' : List Int) (s : Int) (t9 : Int) : St := ⟨fresh, [(0, AV.v (Ty.int IntKind.u32).sl (Md.bor true false) with'), (1, AV.v (Ty.int IntKind.u32) (Md.bor false true) s), (7, AV.v (Ty.int IntKind.u32).sl (Md.bor true false) with'), (8, AV.v (Ty.int IntKind.i64) (Md.bor false true) (↑with'.length : Int)), (9, AV.v (Ty.int IntKind.i64) (Md.bor false true) t9)]⟩
theorem color_all_h0 (nf : Nat)  (with' : List Int) (s : Int) (fu : Nat) (t9 : Int) : iter (fu + 1) (LC.F tab (color_all_phi nf) (fun _ F => iter nf F) color_all_keep 0 (color_all_L0 nf )) (color_all_m0 with' s t9) = color_all_b0 nf  with' s  (fun t9 => iter fu (LC.F tab (color_all_phi nf) (fun _ F => iter nf F) color_all_keep 0 (color_all_L0 nf )) (color_all_m0 with' s t9)) t9 := by kernel_rfl
theorem color_all_e0 (nf : Nat)  (with' : List Int) (s : Int) : ∀ (fu : Nat) (t9 : Int), iter fu (LC.F tab (color_all_phi nf) (fun _ F => iter nf F) color_all_keep 0 (color_all_L0 nf )) (color_all_m0 with' s t9) = color_all_l0 nf with' s  fu t9 := by
  intro fu
  induction fu with
  | zero => intros; rfl
  | succ fu ih =>
    intro t9
    rw [color_all_h0 nf  with' s fu t9]
    simp only [ih]
    rfl
theorem color_all_eq (nf : Nat) (with' : List Int) (s : Int) : runF tab (color_all_phi nf) color_all_keep nf [PT.val (Ty.int IntKind.u32).sl (Md.bor true false), PT.val (Ty.int IntKind.u32) (Md.bor true false)] [(Ty.bool, Md.bor false true)] Try.f40.results.toList (codeOf Try.f40) ⟨with', s, ()⟩ = color_all_f nf with' s := by
  have h : runF tab (color_all_phi nf) color_all_keep nf [PT.val (Ty.int IntKind.u32).sl (Md.bor true false), PT.val (Ty.int IntKind.u32) (Md.bor true false)] [(Ty.bool, Md.bor false true)] Try.f40.results.toList (codeOf Try.f40) ⟨with', s, ()⟩ = color_all_p nf (fun p0 p1 v0 => iter nf (LC.F tab (color_all_phi nf) (fun _ F => iter nf F) color_all_keep 0 (color_all_L0 nf)) (color_all_m0 p0 p1 v0)) with' s := by kernel_rfl
  rw [h]
  simp only [color_all_e0]
  rfl
def color_all_F (nf : Nat) (x : denPs [.val (.sl (.int .u32)) (.bor true false), .val (.int .u32) (.bor true false)]) : Option (denL [(.bool, .bor false true)]) := color_all_f nf x.1 x.2.1
def color_all_C (nf : Nat) : Contract := ⟨[.val (.sl (.int .u32)) (.bor true false), .val (.int .u32) (.bor true false)], [(.bool, .bor false true)], color_all_F nf⟩
theorem color_all_ok : FnOK Try.prog 40 := ⟨Try.f40, codeOf Try.f40, Try.func40, by kernel_rfl, by kernel_rfl⟩
theorem color_all_holds (nf : Nat) : Contract.Holds Try.prog 40 (color_all_C nf) :=
  fn_holds (Φ := color_all_phi nf) (keep := color_all_keep) (n := nf) ⟨tabs.1, tabs.2, ctx_nil, mixed⟩ (fn := Try.f40) ⟨Try.func40, by kernel_rfl, by kernel_rfl, by kernel_rfl⟩ (fun x => color_all_eq nf x.1 x.2.1)

/-! codemason color.Clique -/
def color_Clique_phi (nf : Nat) : Nat → Option Contract := lookC [(37, color_clashes_C nf), (38, bits_OnesCount32_C nf), (40, color_all_C nf)]
def color_Clique_keep : Nat → List Nat := lookK [(0, [6, 8, 10, 13, 14, 20, 21])]
def color_Clique_b0 (nf : Nat) (n' : Int) (g0 : List Int → Int → Int → Option (Int × Int × Unit)) (with' : List Int) (best : Int) (t21 : Int) : Option (Int × Int × Unit) :=
  bif decide (t21 < shlI IntKind.u32 1 n') then
    Option.bind (bits_OnesCount32_f nf t21) fun r2 =>
    Option.bind (bits_OnesCount32_f nf best) fun r3 =>
    bif decide (r2.fst > r3.fst) then
      Option.bind (color_all_f nf with' t21) fun r4 =>
      bif r4.fst then
        g0 with' t21 (IntKind.u32.wrap (t21 + 1))
      else
        g0 with' best (IntKind.u32.wrap (t21 + 1))
    else
      g0 with' best (IntKind.u32.wrap (t21 + 1))
  else
    some ((best, 0, ()))
def color_Clique_p (nf : Nat) (l0 : Int → List Int → Int → Int → Option (Int × Int × Unit)) (n' : Int) (pairs : List (Int × Int × Unit)) : Option (Int × Int × Unit) :=
  Option.bind (color_clashes_f nf n' pairs) fun r =>
  bif r.snd.fst != 0 then
    some ((0, r.snd.fst, ()))
  else
    bif decide (0 ≤ n') then
      l0 n' r.fst 0 0
    else
      none
def color_Clique_l0 (nf : Nat) (n' : Int) : Nat → List Int → Int → Int → Option (Int × Int × Unit)
  | 0, _, _, _ => none
  | fu + 1, with', best, t21 => color_Clique_b0 nf  n'  (color_Clique_l0 nf n'  fu) with' best t21
def color_Clique_f (nf : Nat) (n' : Int) (pairs : List (Int × Int × Unit)) : Option (Int × Int × Unit) := color_Clique_p nf (fun p0 v0 v1 v2 => color_Clique_l0 nf p0 nf v0 v1 v2) n' pairs
noncomputable def color_Clique_L0 (nf : Nat) : LC (Int × Int × Unit) := theL (findL tab (color_Clique_phi nf) (fun _ F => iter nf F) color_Clique_keep 0 0 (codeOf Try.f17) (fin [(Ty.int IntKind.u32, Md.bor false true), (Ty.int IntKind.i64, Md.bor false true)] Try.f17.results.toList) (fun _ _ => none) (fin [(Ty.int IntKind.u32, Md.bor false true), (Ty.int IntKind.i64, Md.bor false true)] Try.f17.results.toList))
def color_Clique_m0 (n' : Int) (with' : List Int) (best : Int) (t21 : Int) : St := ⟨fresh, [(6, AV.ow 500006 (Ty.int IntKind.u32).sl (Md.own false (Md.bor false false)) with'), (8, AV.v (Ty.int IntKind.u32) (Md.bor false true) best), (10, AV.dead), (13, AV.dead), (14, AV.dead), (20, AV.v (Ty.int IntKind.u32) (Md.bor false true) (shlI IntKind.u32 1 n')), (21, AV.v (Ty.int IntKind.u32) (Md.bor false true) t21)]⟩
theorem color_Clique_h0 (nf : Nat)  (n' : Int) (fu : Nat) (with' : List Int) (best : Int) (t21 : Int) : iter (fu + 1) (LC.F tab (color_Clique_phi nf) (fun _ F => iter nf F) color_Clique_keep 0 (color_Clique_L0 nf )) (color_Clique_m0 n' with' best t21) = color_Clique_b0 nf  n'  (fun with' best t21 => iter fu (LC.F tab (color_Clique_phi nf) (fun _ F => iter nf F) color_Clique_keep 0 (color_Clique_L0 nf )) (color_Clique_m0 n' with' best t21)) with' best t21 := by kernel_rfl
theorem color_Clique_e0 (nf : Nat)  (n' : Int) : ∀ (fu : Nat) (with' : List Int) (best : Int) (t21 : Int), iter fu (LC.F tab (color_Clique_phi nf) (fun _ F => iter nf F) color_Clique_keep 0 (color_Clique_L0 nf )) (color_Clique_m0 n' with' best t21) = color_Clique_l0 nf n'  fu with' best t21 := by
  intro fu
  induction fu with
  | zero => intros; rfl
  | succ fu ih =>
    intro with' best t21
    rw [color_Clique_h0 nf  n' fu with' best t21]
    simp only [ih]
    rfl
theorem color_Clique_eq (nf : Nat) (n' : Int) (pairs : List (Int × Int × Unit)) : runF tab (color_Clique_phi nf) color_Clique_keep nf [PT.val (Ty.int IntKind.i64) (Md.bor true false), PT.val ((Ty.int IntKind.i64).pair ((Ty.int IntKind.i64).pair Ty.unit)).sl (Md.bor true false)] [(Ty.int IntKind.u32, Md.bor false true), (Ty.int IntKind.i64, Md.bor false true)] Try.f17.results.toList (codeOf Try.f17) ⟨n', pairs, ()⟩ = color_Clique_f nf n' pairs := by
  have h : runF tab (color_Clique_phi nf) color_Clique_keep nf [PT.val (Ty.int IntKind.i64) (Md.bor true false), PT.val ((Ty.int IntKind.i64).pair ((Ty.int IntKind.i64).pair Ty.unit)).sl (Md.bor true false)] [(Ty.int IntKind.u32, Md.bor false true), (Ty.int IntKind.i64, Md.bor false true)] Try.f17.results.toList (codeOf Try.f17) ⟨n', pairs, ()⟩ = color_Clique_p nf (fun p0 v0 v1 v2 => iter nf (LC.F tab (color_Clique_phi nf) (fun _ F => iter nf F) color_Clique_keep 0 (color_Clique_L0 nf)) (color_Clique_m0 p0 v0 v1 v2)) n' pairs := by kernel_rfl
  rw [h]
  simp only [color_Clique_e0]
  rfl
def color_Clique_F (nf : Nat) (x : denPs [.val (.int .i64) (.bor true false), .val (.sl (.pair (.int .i64) (.pair (.int .i64) (.unit)))) (.bor true false)]) : Option (denL [(.int .u32, .bor false true), (.int .i64, .bor false true)]) := color_Clique_f nf x.1 x.2.1
def color_Clique_C (nf : Nat) : Contract := ⟨[.val (.int .i64) (.bor true false), .val (.sl (.pair (.int .i64) (.pair (.int .i64) (.unit)))) (.bor true false)], [(.int .u32, .bor false true), (.int .i64, .bor false true)], color_Clique_F nf⟩
theorem color_Clique_ok : FnOK Try.prog 17 := ⟨Try.f17, codeOf Try.f17, Try.func17, by kernel_rfl, by kernel_rfl⟩
theorem color_Clique_holds (nf : Nat) : Contract.Holds Try.prog 17 (color_Clique_C nf) :=
  fn_holds (Φ := color_Clique_phi nf) (keep := color_Clique_keep) (n := nf) ⟨tabs.1, tabs.2, (ctx_cons color_clashes_ok (color_clashes_holds nf) (ctx_cons bits_OnesCount32_ok (bits_OnesCount32_holds nf) (ctx_cons color_all_ok (color_all_holds nf) ctx_nil))), mixed⟩ (fn := Try.f17) ⟨Try.func17, by kernel_rfl, by kernel_rfl, by kernel_rfl⟩ (fun x => color_Clique_eq nf x.1 x.2.1)

/-! codemason codemasonref.Size -/
def ref_Size_phi (nf : Nat) : Nat → Option Contract := lookC [(15, ref_Bit_C nf)]
def ref_Size_keep : Nat → List Nat := lookK [(0, [0, 3, 4])]
def ref_Size_b0 (nf : Nat) (w : Int) (g0 : Int → Int → Option (Int × Unit)) (n' : Int) (i : Int) : Option (Int × Unit) :=
  bif decide (i < 32) then
    Option.bind (ref_Bit_f nf w i) fun r =>
    bif r.fst then
      g0 (IntKind.i64.wrap (n' + 1)) (IntKind.i64.wrap (i + 1))
    else
      g0 n' (IntKind.i64.wrap (i + 1))
  else
    some ((n', ()))
def ref_Size_p (nf : Nat) (l0 : Int → Int → Int → Option (Int × Unit)) (w : Int) : Option (Int × Unit) :=
  l0 w 0 0
def ref_Size_l0 (nf : Nat) (w : Int) : Nat → Int → Int → Option (Int × Unit)
  | 0, _, _ => none
  | fu + 1, n', i => ref_Size_b0 nf  w  (ref_Size_l0 nf w  fu) n' i
def ref_Size_f (nf : Nat) (w : Int) : Option (Int × Unit) := ref_Size_p nf (fun p0 v0 v1 => ref_Size_l0 nf p0 nf v0 v1) w
noncomputable def ref_Size_L0 (nf : Nat) : LC (Int × Unit) := theL (findL tab (ref_Size_phi nf) (fun _ F => iter nf F) ref_Size_keep 0 0 (codeOf Try.f18) (fin [(Ty.int IntKind.i64, Md.bor false true)] Try.f18.results.toList) (fun _ _ => none) (fin [(Ty.int IntKind.i64, Md.bor false true)] Try.f18.results.toList))
def ref_Size_m0 (w : Int) (n' : Int) (i : Int) : St := ⟨fresh, [(0, AV.v (Ty.int IntKind.u32) (Md.bor false true) w), (3, AV.v (Ty.int IntKind.i64) (Md.bor false true) n'), (4, AV.v (Ty.int IntKind.i64) (Md.bor false true) i)]⟩
theorem ref_Size_h0 (nf : Nat)  (w : Int) (fu : Nat) (n' : Int) (i : Int) : iter (fu + 1) (LC.F tab (ref_Size_phi nf) (fun _ F => iter nf F) ref_Size_keep 0 (ref_Size_L0 nf )) (ref_Size_m0 w n' i) = ref_Size_b0 nf  w  (fun n' i => iter fu (LC.F tab (ref_Size_phi nf) (fun _ F => iter nf F) ref_Size_keep 0 (ref_Size_L0 nf )) (ref_Size_m0 w n' i)) n' i := by kernel_rfl
theorem ref_Size_e0 (nf : Nat)  (w : Int) : ∀ (fu : Nat) (n' : Int) (i : Int), iter fu (LC.F tab (ref_Size_phi nf) (fun _ F => iter nf F) ref_Size_keep 0 (ref_Size_L0 nf )) (ref_Size_m0 w n' i) = ref_Size_l0 nf w  fu n' i := by
  intro fu
  induction fu with
  | zero => intros; rfl
  | succ fu ih =>
    intro n' i
    rw [ref_Size_h0 nf  w fu n' i]
    simp only [ih]
    rfl
theorem ref_Size_eq (nf : Nat) (w : Int) : runF tab (ref_Size_phi nf) ref_Size_keep nf [PT.val (Ty.int IntKind.u32) (Md.bor true false)] [(Ty.int IntKind.i64, Md.bor false true)] Try.f18.results.toList (codeOf Try.f18) ⟨w, ()⟩ = ref_Size_f nf w := by
  have h : runF tab (ref_Size_phi nf) ref_Size_keep nf [PT.val (Ty.int IntKind.u32) (Md.bor true false)] [(Ty.int IntKind.i64, Md.bor false true)] Try.f18.results.toList (codeOf Try.f18) ⟨w, ()⟩ = ref_Size_p nf (fun p0 v0 v1 => iter nf (LC.F tab (ref_Size_phi nf) (fun _ F => iter nf F) ref_Size_keep 0 (ref_Size_L0 nf)) (ref_Size_m0 p0 v0 v1)) w := by kernel_rfl
  rw [h]
  simp only [ref_Size_e0]
  rfl
def ref_Size_F (nf : Nat) (x : denPs [.val (.int .u32) (.bor true false)]) : Option (denL [(.int .i64, .bor false true)]) := ref_Size_f nf x.1
def ref_Size_C (nf : Nat) : Contract := ⟨[.val (.int .u32) (.bor true false)], [(.int .i64, .bor false true)], ref_Size_F nf⟩
theorem ref_Size_ok : FnOK Try.prog 18 := ⟨Try.f18, codeOf Try.f18, Try.func18, by kernel_rfl, by kernel_rfl⟩
theorem ref_Size_holds (nf : Nat) : Contract.Holds Try.prog 18 (ref_Size_C nf) :=
  fn_holds (Φ := ref_Size_phi nf) (keep := ref_Size_keep) (n := nf) ⟨tabs.1, tabs.2, (ctx_cons ref_Bit_ok (ref_Bit_holds nf) ctx_nil), mixed⟩ (fn := Try.f18) ⟨Try.func18, by kernel_rfl, by kernel_rfl, by kernel_rfl⟩ (fun x => ref_Size_eq nf x.1)

/-! codemason codemasonref.Cliques -/
def ref_Cliques_phi (nf : Nat) : Nat → Option Contract := lookC [(15, ref_Bit_C nf), (16, ref_Clash_C nf)]
def ref_Cliques_keep : Nat → List Nat := lookK [(2, [0, 1, 2, 7, 8]), (0, [0, 1, 2, 7])]
def ref_Cliques_b0 (nf : Nat) (l2 : Int → List (Int × Int × Unit) → Int → Int → Int → Option (Bool × Unit)) (n' : Int) (pairs : List (Int × Int × Unit)) (s : Int) (g0 : Int → Option (Bool × Unit)) (i : Int) : Option (Bool × Unit) :=
  bif decide (i < n') then
    l2 n' pairs s i 0
  else
    some ((true, ()))
def ref_Cliques_b2 (nf : Nat) (n' : Int) (pairs : List (Int × Int × Unit)) (s : Int) (i : Int) (g0 : Int → Option (Bool × Unit)) (g2 : Int → Option (Bool × Unit)) (j : Int) : Option (Bool × Unit) :=
  bif decide (j < i) then
    Option.bind (ref_Bit_f nf s i) fun r =>
    bif r.fst then
      Option.bind (ref_Bit_f nf s j) fun r2 =>
      bif r2.fst then
        Option.bind (ref_Clash_f nf pairs i j) fun r3 =>
        bif !r3.fst then
          some ((false, ()))
        else
          g2 (IntKind.i64.wrap (j + 1))
      else
        g2 (IntKind.i64.wrap (j + 1))
    else
      g2 (IntKind.i64.wrap (j + 1))
  else
    g0 (IntKind.i64.wrap (i + 1))
def ref_Cliques_p (nf : Nat) (l0 : Int → List (Int × Int × Unit) → Int → Int → Option (Bool × Unit)) (n' : Int) (pairs : List (Int × Int × Unit)) (s : Int) : Option (Bool × Unit) :=
  l0 n' pairs s 0
def ref_Cliques_l2 (nf : Nat) (n' : Int) (pairs : List (Int × Int × Unit)) (s : Int) (i : Int) (g0 : Int → Option (Bool × Unit)) : Nat → Int → Option (Bool × Unit)
  | 0, _ => none
  | fu + 1, j => ref_Cliques_b2 nf  n' pairs s i g0 (ref_Cliques_l2 nf n' pairs s i g0 fu) j
def ref_Cliques_l0 (nf : Nat) (n' : Int) (pairs : List (Int × Int × Unit)) (s : Int) : Nat → Int → Option (Bool × Unit)
  | 0, _ => none
  | fu + 1, i => ref_Cliques_b0 nf (fun _ _ _ p3 v0 => ref_Cliques_l2 nf n' pairs s p3 (fun i => ref_Cliques_l0 nf n' pairs s  fu i) nf v0) n' pairs s  (ref_Cliques_l0 nf n' pairs s  fu) i
def ref_Cliques_f (nf : Nat) (n' : Int) (pairs : List (Int × Int × Unit)) (s : Int) : Option (Bool × Unit) := ref_Cliques_p nf (fun p0 p1 p2 v0 => ref_Cliques_l0 nf p0 p1 p2 nf v0) n' pairs s
noncomputable def ref_Cliques_L0 (nf : Nat) : LC (Bool × Unit) := theL (findL tab (ref_Cliques_phi nf) (fun _ F => iter nf F) ref_Cliques_keep 0 0 (codeOf Try.f19) (fin [(Ty.bool, Md.bor false true)] Try.f19.results.toList) (fun _ _ => none) (fin [(Ty.bool, Md.bor false true)] Try.f19.results.toList))
def ref_Cliques_m0 (n' : Int) (pairs : List (Int × Int × Unit)) (s : Int) (i : Int) : St := ⟨fresh, [(0, AV.v (Ty.int IntKind.i64) (Md.bor false true) n'), (1, AV.v ((Ty.int IntKind.i64).pair ((Ty.int IntKind.i64).pair Ty.unit)).sl (Md.bor true false) pairs), (2, AV.v (Ty.int IntKind.u32) (Md.bor false true) s), (7, AV.v (Ty.int IntKind.i64) (Md.bor false true) i)]⟩
noncomputable def ref_Cliques_L2 (nf : Nat) (G0 : St → Option (Bool × Unit)) : LC (Bool × Unit) := theL (findL tab (ref_Cliques_phi nf) (fun _ F => iter nf F) ref_Cliques_keep 2 0 (ref_Cliques_L0 nf ).c (fun st => norm (ref_Cliques_keep 0) st G0) (ref_Cliques_L0 nf ).Kx (ref_Cliques_L0 nf ).Kr)
def ref_Cliques_m2 (n' : Int) (pairs : List (Int × Int × Unit)) (s : Int) (i : Int) (j : Int) : St := ⟨fresh, [(0, AV.v (Ty.int IntKind.i64) (Md.bor false true) n'), (1, AV.v ((Ty.int IntKind.i64).pair ((Ty.int IntKind.i64).pair Ty.unit)).sl (Md.bor true false) pairs), (2, AV.v (Ty.int IntKind.u32) (Md.bor false true) s), (7, AV.v (Ty.int IntKind.i64) (Md.bor false true) i), (8, AV.v (Ty.int IntKind.i64) (Md.bor false true) j)]⟩
theorem ref_Cliques_h2 (nf : Nat) (G0 : St → Option (Bool × Unit)) (n' : Int) (pairs : List (Int × Int × Unit)) (s : Int) (i : Int) (fu : Nat) (j : Int) : iter (fu + 1) (LC.F tab (ref_Cliques_phi nf) (fun _ F => iter nf F) ref_Cliques_keep 2 (ref_Cliques_L2 nf G0)) (ref_Cliques_m2 n' pairs s i j) = ref_Cliques_b2 nf  n' pairs s i (fun i => G0 (ref_Cliques_m0 n' pairs s i)) (fun j => iter fu (LC.F tab (ref_Cliques_phi nf) (fun _ F => iter nf F) ref_Cliques_keep 2 (ref_Cliques_L2 nf G0)) (ref_Cliques_m2 n' pairs s i j)) j := by kernel_rfl
theorem ref_Cliques_e2 (nf : Nat) (G0 : St → Option (Bool × Unit)) (n' : Int) (pairs : List (Int × Int × Unit)) (s : Int) (i : Int) : ∀ (fu : Nat) (j : Int), iter fu (LC.F tab (ref_Cliques_phi nf) (fun _ F => iter nf F) ref_Cliques_keep 2 (ref_Cliques_L2 nf G0)) (ref_Cliques_m2 n' pairs s i j) = ref_Cliques_l2 nf n' pairs s i (fun i => G0 (ref_Cliques_m0 n' pairs s i)) fu j := by
  intro fu
  induction fu with
  | zero => intros; rfl
  | succ fu ih =>
    intro j
    rw [ref_Cliques_h2 nf G0 n' pairs s i fu j]
    simp only [ih]
    rfl
theorem ref_Cliques_h0 (nf : Nat)  (n' : Int) (pairs : List (Int × Int × Unit)) (s : Int) (fu : Nat) (i : Int) : iter (fu + 1) (LC.F tab (ref_Cliques_phi nf) (fun _ F => iter nf F) ref_Cliques_keep 0 (ref_Cliques_L0 nf )) (ref_Cliques_m0 n' pairs s i) = ref_Cliques_b0 nf (fun _ _ _ p3 v0 => iter nf (LC.F tab (ref_Cliques_phi nf) (fun _ F => iter nf F) ref_Cliques_keep 2 (ref_Cliques_L2 nf (iter fu (LC.F tab (ref_Cliques_phi nf) (fun _ F => iter nf F) ref_Cliques_keep 0 (ref_Cliques_L0 nf ))))) (ref_Cliques_m2 n' pairs s p3 v0)) n' pairs s  (fun i => iter fu (LC.F tab (ref_Cliques_phi nf) (fun _ F => iter nf F) ref_Cliques_keep 0 (ref_Cliques_L0 nf )) (ref_Cliques_m0 n' pairs s i)) i := by kernel_rfl
theorem ref_Cliques_e0 (nf : Nat)  (n' : Int) (pairs : List (Int × Int × Unit)) (s : Int) : ∀ (fu : Nat) (i : Int), iter fu (LC.F tab (ref_Cliques_phi nf) (fun _ F => iter nf F) ref_Cliques_keep 0 (ref_Cliques_L0 nf )) (ref_Cliques_m0 n' pairs s i) = ref_Cliques_l0 nf n' pairs s  fu i := by
  intro fu
  induction fu with
  | zero => intros; rfl
  | succ fu ih =>
    intro i
    rw [ref_Cliques_h0 nf  n' pairs s fu i]
    simp only [ih, ref_Cliques_e2]
    rfl
theorem ref_Cliques_eq (nf : Nat) (n' : Int) (pairs : List (Int × Int × Unit)) (s : Int) : runF tab (ref_Cliques_phi nf) ref_Cliques_keep nf [PT.val (Ty.int IntKind.i64) (Md.bor true false), PT.val ((Ty.int IntKind.i64).pair ((Ty.int IntKind.i64).pair Ty.unit)).sl (Md.bor true false), PT.val (Ty.int IntKind.u32) (Md.bor true false)] [(Ty.bool, Md.bor false true)] Try.f19.results.toList (codeOf Try.f19) ⟨n', pairs, s, ()⟩ = ref_Cliques_f nf n' pairs s := by
  have h : runF tab (ref_Cliques_phi nf) ref_Cliques_keep nf [PT.val (Ty.int IntKind.i64) (Md.bor true false), PT.val ((Ty.int IntKind.i64).pair ((Ty.int IntKind.i64).pair Ty.unit)).sl (Md.bor true false), PT.val (Ty.int IntKind.u32) (Md.bor true false)] [(Ty.bool, Md.bor false true)] Try.f19.results.toList (codeOf Try.f19) ⟨n', pairs, s, ()⟩ = ref_Cliques_p nf (fun p0 p1 p2 v0 => iter nf (LC.F tab (ref_Cliques_phi nf) (fun _ F => iter nf F) ref_Cliques_keep 0 (ref_Cliques_L0 nf)) (ref_Cliques_m0 p0 p1 p2 v0)) n' pairs s := by kernel_rfl
  rw [h]
  simp only [ref_Cliques_e0]
  rfl
def ref_Cliques_F (nf : Nat) (x : denPs [.val (.int .i64) (.bor true false), .val (.sl (.pair (.int .i64) (.pair (.int .i64) (.unit)))) (.bor true false), .val (.int .u32) (.bor true false)]) : Option (denL [(.bool, .bor false true)]) := ref_Cliques_f nf x.1 x.2.1 x.2.2.1
def ref_Cliques_C (nf : Nat) : Contract := ⟨[.val (.int .i64) (.bor true false), .val (.sl (.pair (.int .i64) (.pair (.int .i64) (.unit)))) (.bor true false), .val (.int .u32) (.bor true false)], [(.bool, .bor false true)], ref_Cliques_F nf⟩
theorem ref_Cliques_ok : FnOK Try.prog 19 := ⟨Try.f19, codeOf Try.f19, Try.func19, by kernel_rfl, by kernel_rfl⟩
theorem ref_Cliques_holds (nf : Nat) : Contract.Holds Try.prog 19 (ref_Cliques_C nf) :=
  fn_holds (Φ := ref_Cliques_phi nf) (keep := ref_Cliques_keep) (n := nf) ⟨tabs.1, tabs.2, (ctx_cons ref_Bit_ok (ref_Bit_holds nf) (ctx_cons ref_Clash_ok (ref_Clash_holds nf) ctx_nil)), mixed⟩ (fn := Try.f19) ⟨Try.func19, by kernel_rfl, by kernel_rfl, by kernel_rfl⟩ (fun x => ref_Cliques_eq nf x.1 x.2.1 x.2.2.1)

/-! codemason codemasonlaw.ColorCliques -/
def law_ColorCliques_phi (nf : Nat) : Nat → Option Contract := lookC [(14, ref_ClashCheck_C nf), (17, color_Clique_C nf), (18, ref_Size_C nf), (19, ref_Cliques_C nf)]
def law_ColorCliques_keep : Nat → List Nat := lookK [(0, [0, 1, 5, 6, 8, 9])]
def law_ColorCliques_b0 (nf : Nat) (n' : Int) (pairs : List (Int × Int × Unit)) (r : Int × Int × Unit) (g0 : Int → Int → Option (Bool × Unit)) (want : Int) (t : Int) : Option (Bool × Unit) :=
  bif decide (0 ≤ IntKind.u64.wrap n') then
    bif decide (t < shlI IntKind.u32 1 (IntKind.u64.wrap n')) then
      Option.bind (ref_Size_f nf t) fun r3 =>
      Option.bind (ref_Size_f nf want) fun r4 =>
      bif decide (r3.fst > r4.fst) then
        Option.bind (ref_Cliques_f nf n' pairs t) fun r5 =>
        bif r5.fst then
          g0 t (IntKind.u32.wrap (t + 1))
        else
          g0 want (IntKind.u32.wrap (t + 1))
      else
        g0 want (IntKind.u32.wrap (t + 1))
    else
      bif r.snd.fst == 0 then
        some ((r.fst == want, ()))
      else
        some ((false, ()))
  else
    none
def law_ColorCliques_p (nf : Nat) (l0 : Int → List (Int × Int × Unit) → Int × Int × Unit → Int → Int → Option (Bool × Unit)) (n' : Int) (pairs : List (Int × Int × Unit)) : Option (Bool × Unit) :=
  Option.bind (color_Clique_f nf n' pairs) fun r =>
  Option.bind (ref_ClashCheck_f nf n' pairs) fun r2 =>
  bif r2.fst != 0 then
    bif r.snd.fst == r2.fst then
      some ((r.fst == 0, ()))
    else
      some ((false, ()))
  else
    l0 n' pairs r 0 0
def law_ColorCliques_l0 (nf : Nat) (n' : Int) (pairs : List (Int × Int × Unit)) (r : Int × Int × Unit) : Nat → Int → Int → Option (Bool × Unit)
  | 0, _, _ => none
  | fu + 1, want, t => law_ColorCliques_b0 nf  n' pairs r  (law_ColorCliques_l0 nf n' pairs r  fu) want t
def law_ColorCliques_f (nf : Nat) (n' : Int) (pairs : List (Int × Int × Unit)) : Option (Bool × Unit) := law_ColorCliques_p nf (fun p0 p1 p2 v0 v1 => law_ColorCliques_l0 nf p0 p1 p2 nf v0 v1) n' pairs
noncomputable def law_ColorCliques_L0 (nf : Nat) : LC (Bool × Unit) := theL (findL tab (law_ColorCliques_phi nf) (fun _ F => iter nf F) law_ColorCliques_keep 0 0 (codeOf Try.f5) (fin [(Ty.bool, Md.bor false true)] Try.f5.results.toList) (fun _ _ => none) (fin [(Ty.bool, Md.bor false true)] Try.f5.results.toList))
def law_ColorCliques_m0 (n' : Int) (pairs : List (Int × Int × Unit)) (r : Int × Int × Unit) (want : Int) (t : Int) : St := ⟨fresh, [(0, AV.v (Ty.int IntKind.i64) (Md.bor false true) n'), (1, AV.v ((Ty.int IntKind.i64).pair ((Ty.int IntKind.i64).pair Ty.unit)).sl (Md.bor true false) pairs), (5, AV.v (Ty.int IntKind.u32) (Md.bor false true) r.fst), (6, AV.v (Ty.int IntKind.i64) (Md.bor false true) r.snd.fst), (8, AV.v (Ty.int IntKind.u32) (Md.bor false true) want), (9, AV.v (Ty.int IntKind.u32) (Md.bor false true) t)]⟩
theorem law_ColorCliques_h0 (nf : Nat)  (n' : Int) (pairs : List (Int × Int × Unit)) (r : Int × Int × Unit) (fu : Nat) (want : Int) (t : Int) : iter (fu + 1) (LC.F tab (law_ColorCliques_phi nf) (fun _ F => iter nf F) law_ColorCliques_keep 0 (law_ColorCliques_L0 nf )) (law_ColorCliques_m0 n' pairs r want t) = law_ColorCliques_b0 nf  n' pairs r  (fun want t => iter fu (LC.F tab (law_ColorCliques_phi nf) (fun _ F => iter nf F) law_ColorCliques_keep 0 (law_ColorCliques_L0 nf )) (law_ColorCliques_m0 n' pairs r want t)) want t := by kernel_rfl
theorem law_ColorCliques_e0 (nf : Nat)  (n' : Int) (pairs : List (Int × Int × Unit)) (r : Int × Int × Unit) : ∀ (fu : Nat) (want : Int) (t : Int), iter fu (LC.F tab (law_ColorCliques_phi nf) (fun _ F => iter nf F) law_ColorCliques_keep 0 (law_ColorCliques_L0 nf )) (law_ColorCliques_m0 n' pairs r want t) = law_ColorCliques_l0 nf n' pairs r  fu want t := by
  intro fu
  induction fu with
  | zero => intros; rfl
  | succ fu ih =>
    intro want t
    rw [law_ColorCliques_h0 nf  n' pairs r fu want t]
    simp only [ih]
    rfl
theorem law_ColorCliques_eq (nf : Nat) (n' : Int) (pairs : List (Int × Int × Unit)) : runF tab (law_ColorCliques_phi nf) law_ColorCliques_keep nf [PT.val (Ty.int IntKind.i64) (Md.bor true false), PT.val ((Ty.int IntKind.i64).pair ((Ty.int IntKind.i64).pair Ty.unit)).sl (Md.bor true false)] [(Ty.bool, Md.bor false true)] Try.f5.results.toList (codeOf Try.f5) ⟨n', pairs, ()⟩ = law_ColorCliques_f nf n' pairs := by
  have h : runF tab (law_ColorCliques_phi nf) law_ColorCliques_keep nf [PT.val (Ty.int IntKind.i64) (Md.bor true false), PT.val ((Ty.int IntKind.i64).pair ((Ty.int IntKind.i64).pair Ty.unit)).sl (Md.bor true false)] [(Ty.bool, Md.bor false true)] Try.f5.results.toList (codeOf Try.f5) ⟨n', pairs, ()⟩ = law_ColorCliques_p nf (fun p0 p1 p2 v0 v1 => iter nf (LC.F tab (law_ColorCliques_phi nf) (fun _ F => iter nf F) law_ColorCliques_keep 0 (law_ColorCliques_L0 nf)) (law_ColorCliques_m0 p0 p1 p2 v0 v1)) n' pairs := by kernel_rfl
  rw [h]
  simp only [law_ColorCliques_e0]
  rfl
def law_ColorCliques_F (nf : Nat) (x : denPs [.val (.int .i64) (.bor true false), .val (.sl (.pair (.int .i64) (.pair (.int .i64) (.unit)))) (.bor true false)]) : Option (denL [(.bool, .bor false true)]) := law_ColorCliques_f nf x.1 x.2.1
def law_ColorCliques_C (nf : Nat) : Contract := ⟨[.val (.int .i64) (.bor true false), .val (.sl (.pair (.int .i64) (.pair (.int .i64) (.unit)))) (.bor true false)], [(.bool, .bor false true)], law_ColorCliques_F nf⟩
theorem law_ColorCliques_ok : FnOK Try.prog 5 := ⟨Try.f5, codeOf Try.f5, Try.func5, by kernel_rfl, by kernel_rfl⟩
theorem law_ColorCliques_holds (nf : Nat) : Contract.Holds Try.prog 5 (law_ColorCliques_C nf) :=
  fn_holds (Φ := law_ColorCliques_phi nf) (keep := law_ColorCliques_keep) (n := nf) ⟨tabs.1, tabs.2, (ctx_cons ref_ClashCheck_ok (ref_ClashCheck_holds nf) (ctx_cons color_Clique_ok (color_Clique_holds nf) (ctx_cons ref_Size_ok (ref_Size_holds nf) (ctx_cons ref_Cliques_ok (ref_Cliques_holds nf) ctx_nil)))), mixed⟩ (fn := Try.f5) ⟨Try.func5, by kernel_rfl, by kernel_rfl, by kernel_rfl⟩ (fun x => law_ColorCliques_eq nf x.1 x.2.1)

/-! codemason color.Perfect -/
def color_Perfect_phi (nf : Nat) : Nat → Option Contract := lookC [(37, color_clashes_C nf), (40, color_all_C nf)]
def color_Perfect_keep : Nat → List Nat := lookK [(2, [6, 8, 9, 10, 13, 16, 17, 28, 29, 30, 50]), (0, [6, 8, 9, 13, 16, 17, 50])]
def color_Perfect_b0 (nf : Nat) (l2 : Int → List Int → List Int → Int → List Int → Int → Option (List Int × Int × Unit)) (g0 : List Int → Int → List Int → Option (List Int × Int × Unit)) (with' : List Int) (left : Int) (l' : List Int) : Option (List Int × Int × Unit) :=
  bif left != 0 then
    l2 left with' with' left l' 0
  else
    some ((l', 0, ()))
def color_Perfect_b2 (nf : Nat) (left : Int) (with' : List Int) (g0 : List Int → Int → List Int → Option (List Int × Int × Unit)) (g2 : List Int → Int → List Int → Int → Option (List Int × Int × Unit)) (with'2 : List Int) (left2 : Int) (l'2 : List Int) (t30 : Int) : Option (List Int × Int × Unit) :=
  bif decide (t30 < (↑with'.length : Int)) then
    bif inb t30 with'2.length then
      bif decide (0 ≤ t30) then
        bif IntKind.u32.wrap (↑(BitVec.ofInt IntKind.u32.bits (shrI IntKind.u32 left2 t30) &&& BitVec.ofInt IntKind.u32.bits 1).toNat : Int) == 1 then
          Option.bind (color_all_f nf with'2 (IntKind.u32.wrap (↑(BitVec.ofInt IntKind.u32.bits (with'2.getD t30.toNat 0) &&& BitVec.ofInt IntKind.u32.bits left2).toNat : Int))) fun r2 =>
          bif r2.fst then
            bif bimp false ![t30].isEmpty && (l'2.length + [t30].length).ble lim then
              bif decide (0 ≤ t30) then
                bif IntKind.u32.wrap (↑(BitVec.ofInt IntKind.u32.bits left2 &&& ~~~BitVec.ofInt IntKind.u32.bits (shlI IntKind.u32 1 t30)).toNat : Int) == left then
                  some (([], 5, ()))
                else
                  g0 with'2 (IntKind.u32.wrap (↑(BitVec.ofInt IntKind.u32.bits left2 &&& ~~~BitVec.ofInt IntKind.u32.bits (shlI IntKind.u32 1 t30)).toNat : Int)) (l'2 ++ [t30])
              else
                none
            else
              none
          else
            g2 with'2 left2 l'2 (IntKind.i64.wrap (t30 + 1))
        else
          g2 with'2 left2 l'2 (IntKind.i64.wrap (t30 + 1))
      else
        none
    else
      none
  else
    bif left2 == left then
      some (([], 5, ()))
    else
      g0 with'2 left2 l'2
def color_Perfect_p (nf : Nat) (l0 : List Int → Int → List Int → Option (List Int × Int × Unit)) (n' : Int) (pairs : List (Int × Int × Unit)) : Option (List Int × Int × Unit) :=
  Option.bind (color_clashes_f nf n' pairs) fun r =>
  bif r.snd.fst != 0 then
    some (([], r.snd.fst, ()))
  else
    bif decide (0 ≤ n') then
      l0 r.fst (IntKind.u32.wrap (shlI IntKind.u32 1 n' - 1)) []
    else
      none
def color_Perfect_l2 (nf : Nat) (left : Int) (with' : List Int) (g0 : List Int → Int → List Int → Option (List Int × Int × Unit)) : Nat → List Int → Int → List Int → Int → Option (List Int × Int × Unit)
  | 0, _, _, _, _ => none
  | fu + 1, with'2, left2, l'2, t30 => color_Perfect_b2 nf  left with' g0 (color_Perfect_l2 nf left with' g0 fu) with'2 left2 l'2 t30
def color_Perfect_l0 (nf : Nat)  : Nat → List Int → Int → List Int → Option (List Int × Int × Unit)
  | 0, _, _, _ => none
  | fu + 1, with', left, l' => color_Perfect_b0 nf (fun p0 p1 v0 v1 v2 v3 => color_Perfect_l2 nf p0 p1 (fun with' left l' => color_Perfect_l0 nf   fu with' left l') nf v0 v1 v2 v3)   (color_Perfect_l0 nf   fu) with' left l'
def color_Perfect_f (nf : Nat) (n' : Int) (pairs : List (Int × Int × Unit)) : Option (List Int × Int × Unit) := color_Perfect_p nf (fun  v0 v1 v2 => color_Perfect_l0 nf  nf v0 v1 v2) n' pairs
noncomputable def color_Perfect_L0 (nf : Nat) : LC (List Int × Int × Unit) := theL (findL tab (color_Perfect_phi nf) (fun _ F => iter nf F) color_Perfect_keep 0 0 (codeOf Try.f20) (fin [((Ty.int IntKind.i64).sl, Md.own false (Md.bor false false)), (Ty.int IntKind.i64, Md.bor false true)] Try.f20.results.toList) (fun _ _ => none) (fin [((Ty.int IntKind.i64).sl, Md.own false (Md.bor false false)), (Ty.int IntKind.i64, Md.bor false true)] Try.f20.results.toList))
def color_Perfect_m0 (with' : List Int) (left : Int) (l' : List Int) : St := ⟨fresh, [(6, AV.ow 500006 (Ty.int IntKind.u32).sl (Md.own false (Md.bor false false)) with'), (8, AV.v (Ty.int IntKind.u32) (Md.bor false true) left), (9, AV.ow 500009 (Ty.int IntKind.i64).sl (Md.own false (Md.bor false false)) l'), (13, AV.dead), (16, AV.dead), (17, AV.dead), (50, AV.dead)]⟩
noncomputable def color_Perfect_L2 (nf : Nat) (G0 : St → Option (List Int × Int × Unit)) : LC (List Int × Int × Unit) := theL (findL tab (color_Perfect_phi nf) (fun _ F => iter nf F) color_Perfect_keep 2 0 (color_Perfect_L0 nf ).c (fun st => norm (color_Perfect_keep 0) st G0) (color_Perfect_L0 nf ).Kx (color_Perfect_L0 nf ).Kr)
def color_Perfect_m2 (left : Int) (with' : List Int) (with'2 : List Int) (left2 : Int) (l'2 : List Int) (t30 : Int) : St := ⟨fresh, [(6, AV.ow 500006 (Ty.int IntKind.u32).sl (Md.own false (Md.bor false false)) with'2), (8, AV.v (Ty.int IntKind.u32) (Md.bor false true) left2), (9, AV.ow 500009 (Ty.int IntKind.i64).sl (Md.own false (Md.bor false false)) l'2), (10, AV.v (Ty.int IntKind.u32) (Md.bor false true) left), (13, AV.dead), (16, AV.dead), (17, AV.dead), (28, AV.al 6 500006 []), (29, AV.v (Ty.int IntKind.i64) (Md.bor false true) (↑with'.length : Int)), (30, AV.v (Ty.int IntKind.i64) (Md.bor false true) t30), (50, AV.dead)]⟩
theorem color_Perfect_h2 (nf : Nat) (G0 : St → Option (List Int × Int × Unit)) (left : Int) (with' : List Int) (fu : Nat) (with'2 : List Int) (left2 : Int) (l'2 : List Int) (t30 : Int) : iter (fu + 1) (LC.F tab (color_Perfect_phi nf) (fun _ F => iter nf F) color_Perfect_keep 2 (color_Perfect_L2 nf G0)) (color_Perfect_m2 left with' with'2 left2 l'2 t30) = color_Perfect_b2 nf  left with' (fun with' left l' => G0 (color_Perfect_m0  with' left l')) (fun with'2 left2 l'2 t30 => iter fu (LC.F tab (color_Perfect_phi nf) (fun _ F => iter nf F) color_Perfect_keep 2 (color_Perfect_L2 nf G0)) (color_Perfect_m2 left with' with'2 left2 l'2 t30)) with'2 left2 l'2 t30 := by kernel_rfl
theorem color_Perfect_e2 (nf : Nat) (G0 : St → Option (List Int × Int × Unit)) (left : Int) (with' : List Int) : ∀ (fu : Nat) (with'2 : List Int) (left2 : Int) (l'2 : List Int) (t30 : Int), iter fu (LC.F tab (color_Perfect_phi nf) (fun _ F => iter nf F) color_Perfect_keep 2 (color_Perfect_L2 nf G0)) (color_Perfect_m2 left with' with'2 left2 l'2 t30) = color_Perfect_l2 nf left with' (fun with' left l' => G0 (color_Perfect_m0  with' left l')) fu with'2 left2 l'2 t30 := by
  intro fu
  induction fu with
  | zero => intros; rfl
  | succ fu ih =>
    intro with'2 left2 l'2 t30
    rw [color_Perfect_h2 nf G0 left with' fu with'2 left2 l'2 t30]
    simp only [ih]
    rfl
theorem color_Perfect_h0 (nf : Nat)   (fu : Nat) (with' : List Int) (left : Int) (l' : List Int) : iter (fu + 1) (LC.F tab (color_Perfect_phi nf) (fun _ F => iter nf F) color_Perfect_keep 0 (color_Perfect_L0 nf )) (color_Perfect_m0  with' left l') = color_Perfect_b0 nf (fun p0 p1 v0 v1 v2 v3 => iter nf (LC.F tab (color_Perfect_phi nf) (fun _ F => iter nf F) color_Perfect_keep 2 (color_Perfect_L2 nf (iter fu (LC.F tab (color_Perfect_phi nf) (fun _ F => iter nf F) color_Perfect_keep 0 (color_Perfect_L0 nf ))))) (color_Perfect_m2 p0 p1 v0 v1 v2 v3))   (fun with' left l' => iter fu (LC.F tab (color_Perfect_phi nf) (fun _ F => iter nf F) color_Perfect_keep 0 (color_Perfect_L0 nf )) (color_Perfect_m0  with' left l')) with' left l' := by kernel_rfl
theorem color_Perfect_e0 (nf : Nat)   : ∀ (fu : Nat) (with' : List Int) (left : Int) (l' : List Int), iter fu (LC.F tab (color_Perfect_phi nf) (fun _ F => iter nf F) color_Perfect_keep 0 (color_Perfect_L0 nf )) (color_Perfect_m0  with' left l') = color_Perfect_l0 nf   fu with' left l' := by
  intro fu
  induction fu with
  | zero => intros; rfl
  | succ fu ih =>
    intro with' left l'
    rw [color_Perfect_h0 nf   fu with' left l']
    simp only [ih, color_Perfect_e2]
    rfl
theorem color_Perfect_eq (nf : Nat) (n' : Int) (pairs : List (Int × Int × Unit)) : runF tab (color_Perfect_phi nf) color_Perfect_keep nf [PT.val (Ty.int IntKind.i64) (Md.bor true false), PT.val ((Ty.int IntKind.i64).pair ((Ty.int IntKind.i64).pair Ty.unit)).sl (Md.bor true false)] [((Ty.int IntKind.i64).sl, Md.own false (Md.bor false false)), (Ty.int IntKind.i64, Md.bor false true)] Try.f20.results.toList (codeOf Try.f20) ⟨n', pairs, ()⟩ = color_Perfect_f nf n' pairs := by
  have h : runF tab (color_Perfect_phi nf) color_Perfect_keep nf [PT.val (Ty.int IntKind.i64) (Md.bor true false), PT.val ((Ty.int IntKind.i64).pair ((Ty.int IntKind.i64).pair Ty.unit)).sl (Md.bor true false)] [((Ty.int IntKind.i64).sl, Md.own false (Md.bor false false)), (Ty.int IntKind.i64, Md.bor false true)] Try.f20.results.toList (codeOf Try.f20) ⟨n', pairs, ()⟩ = color_Perfect_p nf (fun  v0 v1 v2 => iter nf (LC.F tab (color_Perfect_phi nf) (fun _ F => iter nf F) color_Perfect_keep 0 (color_Perfect_L0 nf)) (color_Perfect_m0  v0 v1 v2)) n' pairs := by kernel_rfl
  rw [h]
  simp only [color_Perfect_e0]
  rfl
def color_Perfect_F (nf : Nat) (x : denPs [.val (.int .i64) (.bor true false), .val (.sl (.pair (.int .i64) (.pair (.int .i64) (.unit)))) (.bor true false)]) : Option (denL [(.sl (.int .i64), .own false (.bor false false)), (.int .i64, .bor false true)]) := color_Perfect_f nf x.1 x.2.1
def color_Perfect_C (nf : Nat) : Contract := ⟨[.val (.int .i64) (.bor true false), .val (.sl (.pair (.int .i64) (.pair (.int .i64) (.unit)))) (.bor true false)], [(.sl (.int .i64), .own false (.bor false false)), (.int .i64, .bor false true)], color_Perfect_F nf⟩
theorem color_Perfect_ok : FnOK Try.prog 20 := ⟨Try.f20, codeOf Try.f20, Try.func20, by kernel_rfl, by kernel_rfl⟩
theorem color_Perfect_holds (nf : Nat) : Contract.Holds Try.prog 20 (color_Perfect_C nf) :=
  fn_holds (Φ := color_Perfect_phi nf) (keep := color_Perfect_keep) (n := nf) ⟨tabs.1, tabs.2, (ctx_cons color_clashes_ok (color_clashes_holds nf) (ctx_cons color_all_ok (color_all_holds nf) ctx_nil)), mixed⟩ (fn := Try.f20) ⟨Try.func20, by kernel_rfl, by kernel_rfl, by kernel_rfl⟩ (fun x => color_Perfect_eq nf x.1 x.2.1)

/-! codemason codemasonref.Has -/
def ref_Has_phi (nf : Nat) : Nat → Option Contract := lookC []
def ref_Has_keep : Nat → List Nat := lookK [(0, [0, 1, 7, 8, 9])]
def ref_Has_b0 (nf : Nat) (l' : List Int) (x : Int) (g0 : Int → Option (Bool × Unit)) (t9 : Int) : Option (Bool × Unit) :=
  bif decide (t9 < (↑l'.length : Int)) then
    bif inb t9 l'.length then
      bif x == l'.getD t9.toNat 0 then
        some ((true, ()))
      else
        g0 (IntKind.i64.wrap (t9 + 1))
    else
      none
  else
    some ((false, ()))
def ref_Has_p (nf : Nat) (l0 : List Int → Int → Int → Option (Bool × Unit)) (l' : List Int) (x : Int) : Option (Bool × Unit) :=
  l0 l' x 0
def ref_Has_l0 (nf : Nat) (l' : List Int) (x : Int) : Nat → Int → Option (Bool × Unit)
  | 0, _ => none
  | fu + 1, t9 => ref_Has_b0 nf  l' x  (ref_Has_l0 nf l' x  fu) t9
def ref_Has_f (nf : Nat) (l' : List Int) (x : Int) : Option (Bool × Unit) := ref_Has_p nf (fun p0 p1 v0 => ref_Has_l0 nf p0 p1 nf v0) l' x
noncomputable def ref_Has_L0 (nf : Nat) : LC (Bool × Unit) := theL (findL tab (ref_Has_phi nf) (fun _ F => iter nf F) ref_Has_keep 0 0 (codeOf Try.f21) (fin [(Ty.bool, Md.bor false true)] Try.f21.results.toList) (fun _ _ => none) (fin [(Ty.bool, Md.bor false true)] Try.f21.results.toList))
def ref_Has_m0 (l' : List Int) (x : Int) (t9 : Int) : St := ⟨fresh, [(0, AV.v (Ty.int IntKind.i64).sl (Md.bor true false) l'), (1, AV.v (Ty.int IntKind.i64) (Md.bor false true) x), (7, AV.v (Ty.int IntKind.i64).sl (Md.bor true false) l'), (8, AV.v (Ty.int IntKind.i64) (Md.bor false true) (↑l'.length : Int)), (9, AV.v (Ty.int IntKind.i64) (Md.bor false true) t9)]⟩
theorem ref_Has_h0 (nf : Nat)  (l' : List Int) (x : Int) (fu : Nat) (t9 : Int) : iter (fu + 1) (LC.F tab (ref_Has_phi nf) (fun _ F => iter nf F) ref_Has_keep 0 (ref_Has_L0 nf )) (ref_Has_m0 l' x t9) = ref_Has_b0 nf  l' x  (fun t9 => iter fu (LC.F tab (ref_Has_phi nf) (fun _ F => iter nf F) ref_Has_keep 0 (ref_Has_L0 nf )) (ref_Has_m0 l' x t9)) t9 := by kernel_rfl
theorem ref_Has_e0 (nf : Nat)  (l' : List Int) (x : Int) : ∀ (fu : Nat) (t9 : Int), iter fu (LC.F tab (ref_Has_phi nf) (fun _ F => iter nf F) ref_Has_keep 0 (ref_Has_L0 nf )) (ref_Has_m0 l' x t9) = ref_Has_l0 nf l' x  fu t9 := by
  intro fu
  induction fu with
  | zero => intros; rfl
  | succ fu ih =>
    intro t9
    rw [ref_Has_h0 nf  l' x fu t9]
    simp only [ih]
    rfl
theorem ref_Has_eq (nf : Nat) (l' : List Int) (x : Int) : runF tab (ref_Has_phi nf) ref_Has_keep nf [PT.val (Ty.int IntKind.i64).sl (Md.bor true false), PT.val (Ty.int IntKind.i64) (Md.bor true false)] [(Ty.bool, Md.bor false true)] Try.f21.results.toList (codeOf Try.f21) ⟨l', x, ()⟩ = ref_Has_f nf l' x := by
  have h : runF tab (ref_Has_phi nf) ref_Has_keep nf [PT.val (Ty.int IntKind.i64).sl (Md.bor true false), PT.val (Ty.int IntKind.i64) (Md.bor true false)] [(Ty.bool, Md.bor false true)] Try.f21.results.toList (codeOf Try.f21) ⟨l', x, ()⟩ = ref_Has_p nf (fun p0 p1 v0 => iter nf (LC.F tab (ref_Has_phi nf) (fun _ F => iter nf F) ref_Has_keep 0 (ref_Has_L0 nf)) (ref_Has_m0 p0 p1 v0)) l' x := by kernel_rfl
  rw [h]
  simp only [ref_Has_e0]
  rfl
def ref_Has_F (nf : Nat) (x : denPs [.val (.sl (.int .i64)) (.bor true false), .val (.int .i64) (.bor true false)]) : Option (denL [(.bool, .bor false true)]) := ref_Has_f nf x.1 x.2.1
def ref_Has_C (nf : Nat) : Contract := ⟨[.val (.sl (.int .i64)) (.bor true false), .val (.int .i64) (.bor true false)], [(.bool, .bor false true)], ref_Has_F nf⟩
theorem ref_Has_ok : FnOK Try.prog 21 := ⟨Try.f21, codeOf Try.f21, Try.func21, by kernel_rfl, by kernel_rfl⟩
theorem ref_Has_holds (nf : Nat) : Contract.Holds Try.prog 21 (ref_Has_C nf) :=
  fn_holds (Φ := ref_Has_phi nf) (keep := ref_Has_keep) (n := nf) ⟨tabs.1, tabs.2, ctx_nil, mixed⟩ (fn := Try.f21) ⟨Try.func21, by kernel_rfl, by kernel_rfl, by kernel_rfl⟩ (fun x => ref_Has_eq nf x.1 x.2.1)

/-! codemason codemasonref.Ints -/
def ref_Ints_phi (nf : Nat) : Nat → Option Contract := lookC []
def ref_Ints_keep : Nat → List Nat := lookK [(0, [0, 1, 5])]
def ref_Ints_b0 (nf : Nat) (a : List Int) (b : List Int) (g0 : Int → Option (Bool × Unit)) (i : Int) : Option (Bool × Unit) :=
  bif decide (i < (↑a.length : Int)) then
    bif inb i a.length then
      bif inb i b.length then
        bif a.getD i.toNat 0 != b.getD i.toNat 0 then
          some ((false, ()))
        else
          g0 (IntKind.i64.wrap (i + 1))
      else
        none
    else
      none
  else
    some ((true, ()))
def ref_Ints_p (nf : Nat) (l0 : List Int → List Int → Int → Option (Bool × Unit)) (a : List Int) (b : List Int) : Option (Bool × Unit) :=
  bif (↑a.length : Int) != (↑b.length : Int) then
    some ((false, ()))
  else
    l0 a b 0
def ref_Ints_l0 (nf : Nat) (a : List Int) (b : List Int) : Nat → Int → Option (Bool × Unit)
  | 0, _ => none
  | fu + 1, i => ref_Ints_b0 nf  a b  (ref_Ints_l0 nf a b  fu) i
def ref_Ints_f (nf : Nat) (a : List Int) (b : List Int) : Option (Bool × Unit) := ref_Ints_p nf (fun p0 p1 v0 => ref_Ints_l0 nf p0 p1 nf v0) a b
noncomputable def ref_Ints_L0 (nf : Nat) : LC (Bool × Unit) := theL (findL tab (ref_Ints_phi nf) (fun _ F => iter nf F) ref_Ints_keep 0 0 (codeOf Try.f22) (fin [(Ty.bool, Md.bor false true)] Try.f22.results.toList) (fun _ _ => none) (fin [(Ty.bool, Md.bor false true)] Try.f22.results.toList))
def ref_Ints_m0 (a : List Int) (b : List Int) (i : Int) : St := ⟨fresh, [(0, AV.v (Ty.int IntKind.i64).sl (Md.bor true false) a), (1, AV.v (Ty.int IntKind.i64).sl (Md.bor true false) b), (5, AV.v (Ty.int IntKind.i64) (Md.bor false true) i)]⟩
theorem ref_Ints_h0 (nf : Nat)  (a : List Int) (b : List Int) (fu : Nat) (i : Int) : iter (fu + 1) (LC.F tab (ref_Ints_phi nf) (fun _ F => iter nf F) ref_Ints_keep 0 (ref_Ints_L0 nf )) (ref_Ints_m0 a b i) = ref_Ints_b0 nf  a b  (fun i => iter fu (LC.F tab (ref_Ints_phi nf) (fun _ F => iter nf F) ref_Ints_keep 0 (ref_Ints_L0 nf )) (ref_Ints_m0 a b i)) i := by kernel_rfl
theorem ref_Ints_e0 (nf : Nat)  (a : List Int) (b : List Int) : ∀ (fu : Nat) (i : Int), iter fu (LC.F tab (ref_Ints_phi nf) (fun _ F => iter nf F) ref_Ints_keep 0 (ref_Ints_L0 nf )) (ref_Ints_m0 a b i) = ref_Ints_l0 nf a b  fu i := by
  intro fu
  induction fu with
  | zero => intros; rfl
  | succ fu ih =>
    intro i
    rw [ref_Ints_h0 nf  a b fu i]
    simp only [ih]
    rfl
theorem ref_Ints_eq (nf : Nat) (a : List Int) (b : List Int) : runF tab (ref_Ints_phi nf) ref_Ints_keep nf [PT.val (Ty.int IntKind.i64).sl (Md.bor true false), PT.val (Ty.int IntKind.i64).sl (Md.bor true false)] [(Ty.bool, Md.bor false true)] Try.f22.results.toList (codeOf Try.f22) ⟨a, b, ()⟩ = ref_Ints_f nf a b := by
  have h : runF tab (ref_Ints_phi nf) ref_Ints_keep nf [PT.val (Ty.int IntKind.i64).sl (Md.bor true false), PT.val (Ty.int IntKind.i64).sl (Md.bor true false)] [(Ty.bool, Md.bor false true)] Try.f22.results.toList (codeOf Try.f22) ⟨a, b, ()⟩ = ref_Ints_p nf (fun p0 p1 v0 => iter nf (LC.F tab (ref_Ints_phi nf) (fun _ F => iter nf F) ref_Ints_keep 0 (ref_Ints_L0 nf)) (ref_Ints_m0 p0 p1 v0)) a b := by kernel_rfl
  rw [h]
  simp only [ref_Ints_e0]
  rfl
def ref_Ints_F (nf : Nat) (x : denPs [.val (.sl (.int .i64)) (.bor true false), .val (.sl (.int .i64)) (.bor true false)]) : Option (denL [(.bool, .bor false true)]) := ref_Ints_f nf x.1 x.2.1
def ref_Ints_C (nf : Nat) : Contract := ⟨[.val (.sl (.int .i64)) (.bor true false), .val (.sl (.int .i64)) (.bor true false)], [(.bool, .bor false true)], ref_Ints_F nf⟩
theorem ref_Ints_ok : FnOK Try.prog 22 := ⟨Try.f22, codeOf Try.f22, Try.func22, by kernel_rfl, by kernel_rfl⟩
theorem ref_Ints_holds (nf : Nat) : Contract.Holds Try.prog 22 (ref_Ints_C nf) :=
  fn_holds (Φ := ref_Ints_phi nf) (keep := ref_Ints_keep) (n := nf) ⟨tabs.1, tabs.2, ctx_nil, mixed⟩ (fn := Try.f22) ⟨Try.func22, by kernel_rfl, by kernel_rfl, by kernel_rfl⟩ (fun x => ref_Ints_eq nf x.1 x.2.1)

/-! codemason codemasonlaw.ColorPerfects -/
def law_ColorPerfects_phi (nf : Nat) : Nat → Option Contract := lookC [(14, ref_ClashCheck_C nf), (16, ref_Clash_C nf), (19, ref_Cliques_C nf), (20, color_Perfect_C nf), (21, ref_Has_C nf), (22, ref_Ints_C nf)]
def law_ColorPerfects_keep : Nat → List Nat := lookK [(4, [0, 1, 5, 6, 8, 9, 10, 11, 12, 13, 16, 17, 85]), (2, [0, 1, 5, 6, 8, 9, 10, 13, 16, 17, 85]), (0, [0, 1, 5, 6, 8, 13, 16, 17, 85])]
def law_ColorPerfects_b0 (nf : Nat) (l2 : Int → List (Int × Int × Unit) → List Int × Int × Unit → List Int → List Int → Int → Int → Option (Bool × Unit)) (n' : Int) (pairs : List (Int × Int × Unit)) (r : List Int × Int × Unit) (g0 : List Int → List Int → Option (Bool × Unit)) (l' : List Int) (want : List Int) : Option (Bool × Unit) :=
  bif decide ((↑want.length : Int) < n') then
    l2 n' pairs r l' want (-1) (IntKind.i64.wrap (n' - 1))
  else
    bif r.snd.fst == 0 then
      Option.bind (ref_Ints_f nf l' want) fun r7 =>
      some ((r7.fst, ()))
    else
      some ((false, ()))
def law_ColorPerfects_b2 (nf : Nat) (l4 : Int → List (Int × Int × Unit) → List Int × Int × Unit → Int → Int → List Int → List Int → Int → Int → Option (Bool × Unit)) (n' : Int) (pairs : List (Int × Int × Unit)) (r : List Int × Int × Unit) (g0 : List Int → List Int → Option (Bool × Unit)) (g2 : List Int → List Int → Int → Int → Option (Bool × Unit)) (l'2 : List Int) (want2 : List Int) (one : Int) (i : Int) : Option (Bool × Unit) :=
  bif decide (i ≥ 0) then
    l4 n' pairs r one i l'2 want2 0 0
  else
    bif decide (one < 0) then
      bif r.snd.fst == 5 then
        some (((↑l'2.length : Int) == 0, ()))
      else
        some ((false, ()))
    else
      bif bimp false ![one].isEmpty && (want2.length + [one].length).ble lim then
        g0 l'2 (want2 ++ [one])
      else
        none
def law_ColorPerfects_b4 (nf : Nat) (n' : Int) (pairs : List (Int × Int × Unit)) (r : List Int × Int × Unit) (one : Int) (i : Int) (g2 : List Int → List Int → Int → Int → Option (Bool × Unit)) (g0 : List Int → List Int → Option (Bool × Unit)) (g4 : List Int → List Int → Int → Int → Option (Bool × Unit)) (l'3 : List Int) (want3 : List Int) (s : Int) (j : Int) : Option (Bool × Unit) :=
  bif decide (j < n') then
    Option.bind (ref_Has_f nf want3 j) fun r3 =>
    bif !r3.fst then
      Option.bind (ref_Clash_f nf pairs i j) fun r4 =>
      bif r4.fst then
        bif decide (0 ≤ IntKind.u64.wrap j) then
          g4 l'3 want3 (IntKind.u32.wrap (s + shlI IntKind.u32 1 (IntKind.u64.wrap j))) (IntKind.i64.wrap (j + 1))
        else
          none
      else
        g4 l'3 want3 s (IntKind.i64.wrap (j + 1))
    else
      g4 l'3 want3 s (IntKind.i64.wrap (j + 1))
  else
    Option.bind (ref_Has_f nf want3 i) fun r5 =>
    bif !r5.fst then
      Option.bind (ref_Cliques_f nf n' pairs s) fun r6 =>
      bif r6.fst then
        g2 l'3 want3 i (IntKind.i64.wrap (i - 1))
      else
        g2 l'3 want3 one (IntKind.i64.wrap (i - 1))
    else
      g2 l'3 want3 one (IntKind.i64.wrap (i - 1))
def law_ColorPerfects_p (nf : Nat) (l0 : Int → List (Int × Int × Unit) → List Int × Int × Unit → List Int → List Int → Option (Bool × Unit)) (n' : Int) (pairs : List (Int × Int × Unit)) : Option (Bool × Unit) :=
  Option.bind (color_Perfect_f nf n' pairs) fun r =>
  Option.bind (ref_ClashCheck_f nf n' pairs) fun r2 =>
  bif r2.fst != 0 then
    bif r.snd.fst == r2.fst then
      some (((↑(List.length r.fst) : Int) == 0, ()))
    else
      some ((false, ()))
  else
    l0 n' pairs r r.fst []
def law_ColorPerfects_l4 (nf : Nat) (n' : Int) (pairs : List (Int × Int × Unit)) (r : List Int × Int × Unit) (one : Int) (i : Int) (g2 : List Int → List Int → Int → Int → Option (Bool × Unit)) (g0 : List Int → List Int → Option (Bool × Unit)) : Nat → List Int → List Int → Int → Int → Option (Bool × Unit)
  | 0, _, _, _, _ => none
  | fu + 1, l'3, want3, s, j => law_ColorPerfects_b4 nf  n' pairs r one i g2 g0 (law_ColorPerfects_l4 nf n' pairs r one i g2 g0 fu) l'3 want3 s j
def law_ColorPerfects_l2 (nf : Nat) (n' : Int) (pairs : List (Int × Int × Unit)) (r : List Int × Int × Unit) (g0 : List Int → List Int → Option (Bool × Unit)) : Nat → List Int → List Int → Int → Int → Option (Bool × Unit)
  | 0, _, _, _, _ => none
  | fu + 1, l'2, want2, one, i => law_ColorPerfects_b2 nf (fun _ _ _ p3 p4 v0 v1 v2 v3 => law_ColorPerfects_l4 nf n' pairs r p3 p4 (fun l'2 want2 one i => law_ColorPerfects_l2 nf n' pairs r g0 fu l'2 want2 one i) g0 nf v0 v1 v2 v3) n' pairs r g0 (law_ColorPerfects_l2 nf n' pairs r g0 fu) l'2 want2 one i
def law_ColorPerfects_l0 (nf : Nat) (n' : Int) (pairs : List (Int × Int × Unit)) (r : List Int × Int × Unit) : Nat → List Int → List Int → Option (Bool × Unit)
  | 0, _, _ => none
  | fu + 1, l', want => law_ColorPerfects_b0 nf (fun _ _ _ v0 v1 v2 v3 => law_ColorPerfects_l2 nf n' pairs r (fun l' want => law_ColorPerfects_l0 nf n' pairs r  fu l' want) nf v0 v1 v2 v3) n' pairs r  (law_ColorPerfects_l0 nf n' pairs r  fu) l' want
def law_ColorPerfects_f (nf : Nat) (n' : Int) (pairs : List (Int × Int × Unit)) : Option (Bool × Unit) := law_ColorPerfects_p nf (fun p0 p1 p2 v0 v1 => law_ColorPerfects_l0 nf p0 p1 p2 nf v0 v1) n' pairs
noncomputable def law_ColorPerfects_L0 (nf : Nat) : LC (Bool × Unit) := theL (findL tab (law_ColorPerfects_phi nf) (fun _ F => iter nf F) law_ColorPerfects_keep 0 0 (codeOf Try.f6) (fin [(Ty.bool, Md.bor false true)] Try.f6.results.toList) (fun _ _ => none) (fin [(Ty.bool, Md.bor false true)] Try.f6.results.toList))
def law_ColorPerfects_m0 (n' : Int) (pairs : List (Int × Int × Unit)) (r : List Int × Int × Unit) (l' : List Int) (want : List Int) : St := ⟨fresh, [(0, AV.v (Ty.int IntKind.i64) (Md.bor false true) n'), (1, AV.v ((Ty.int IntKind.i64).pair ((Ty.int IntKind.i64).pair Ty.unit)).sl (Md.bor true false) pairs), (5, AV.ow 500005 (Ty.int IntKind.i64).sl (Md.own false (Md.bor false false)) l'), (6, AV.v (Ty.int IntKind.i64) (Md.bor false true) r.snd.fst), (8, AV.ow 500008 (Ty.int IntKind.i64).sl (Md.own false (Md.bor false false)) want), (13, AV.dead), (16, AV.dead), (17, AV.dead), (85, AV.dead)]⟩
noncomputable def law_ColorPerfects_L2 (nf : Nat) (G0 : St → Option (Bool × Unit)) : LC (Bool × Unit) := theL (findL tab (law_ColorPerfects_phi nf) (fun _ F => iter nf F) law_ColorPerfects_keep 2 0 (law_ColorPerfects_L0 nf ).c (fun st => norm (law_ColorPerfects_keep 0) st G0) (law_ColorPerfects_L0 nf ).Kx (law_ColorPerfects_L0 nf ).Kr)
def law_ColorPerfects_m2 (n' : Int) (pairs : List (Int × Int × Unit)) (r : List Int × Int × Unit) (l'2 : List Int) (want2 : List Int) (one : Int) (i : Int) : St := ⟨fresh, [(0, AV.v (Ty.int IntKind.i64) (Md.bor false true) n'), (1, AV.v ((Ty.int IntKind.i64).pair ((Ty.int IntKind.i64).pair Ty.unit)).sl (Md.bor true false) pairs), (5, AV.ow 500005 (Ty.int IntKind.i64).sl (Md.own false (Md.bor false false)) l'2), (6, AV.v (Ty.int IntKind.i64) (Md.bor false true) r.snd.fst), (8, AV.ow 500008 (Ty.int IntKind.i64).sl (Md.own false (Md.bor false false)) want2), (9, AV.v (Ty.int IntKind.i64) (Md.bor false true) one), (10, AV.v (Ty.int IntKind.i64) (Md.bor false true) i), (13, AV.dead), (16, AV.dead), (17, AV.dead), (85, AV.dead)]⟩
noncomputable def law_ColorPerfects_L4 (nf : Nat) (G0 : St → Option (Bool × Unit)) (G2 : St → Option (Bool × Unit)) : LC (Bool × Unit) := theL (findL tab (law_ColorPerfects_phi nf) (fun _ F => iter nf F) law_ColorPerfects_keep 4 2 (law_ColorPerfects_L2 nf G0).c (fun st => norm (law_ColorPerfects_keep 2) st G2) (law_ColorPerfects_L2 nf G0).Kx (law_ColorPerfects_L2 nf G0).Kr)
def law_ColorPerfects_m4 (n' : Int) (pairs : List (Int × Int × Unit)) (r : List Int × Int × Unit) (one : Int) (i : Int) (l'3 : List Int) (want3 : List Int) (s : Int) (j : Int) : St := ⟨fresh, [(0, AV.v (Ty.int IntKind.i64) (Md.bor false true) n'), (1, AV.v ((Ty.int IntKind.i64).pair ((Ty.int IntKind.i64).pair Ty.unit)).sl (Md.bor true false) pairs), (5, AV.ow 500005 (Ty.int IntKind.i64).sl (Md.own false (Md.bor false false)) l'3), (6, AV.v (Ty.int IntKind.i64) (Md.bor false true) r.snd.fst), (8, AV.ow 500008 (Ty.int IntKind.i64).sl (Md.own false (Md.bor false false)) want3), (9, AV.v (Ty.int IntKind.i64) (Md.bor false true) one), (10, AV.v (Ty.int IntKind.i64) (Md.bor false true) i), (11, AV.v (Ty.int IntKind.u32) (Md.bor false true) s), (12, AV.v (Ty.int IntKind.i64) (Md.bor false true) j), (13, AV.dead), (16, AV.dead), (17, AV.dead), (85, AV.dead)]⟩
theorem law_ColorPerfects_h4 (nf : Nat) (G0 : St → Option (Bool × Unit)) (G2 : St → Option (Bool × Unit)) (n' : Int) (pairs : List (Int × Int × Unit)) (r : List Int × Int × Unit) (one : Int) (i : Int) (fu : Nat) (l'3 : List Int) (want3 : List Int) (s : Int) (j : Int) : iter (fu + 1) (LC.F tab (law_ColorPerfects_phi nf) (fun _ F => iter nf F) law_ColorPerfects_keep 4 (law_ColorPerfects_L4 nf G0 G2)) (law_ColorPerfects_m4 n' pairs r one i l'3 want3 s j) = law_ColorPerfects_b4 nf  n' pairs r one i (fun l'2 want2 one i => G2 (law_ColorPerfects_m2 n' pairs r l'2 want2 one i)) (fun l' want => G0 (law_ColorPerfects_m0 n' pairs r l' want)) (fun l'3 want3 s j => iter fu (LC.F tab (law_ColorPerfects_phi nf) (fun _ F => iter nf F) law_ColorPerfects_keep 4 (law_ColorPerfects_L4 nf G0 G2)) (law_ColorPerfects_m4 n' pairs r one i l'3 want3 s j)) l'3 want3 s j := by kernel_rfl
theorem law_ColorPerfects_e4 (nf : Nat) (G0 : St → Option (Bool × Unit)) (G2 : St → Option (Bool × Unit)) (n' : Int) (pairs : List (Int × Int × Unit)) (r : List Int × Int × Unit) (one : Int) (i : Int) : ∀ (fu : Nat) (l'3 : List Int) (want3 : List Int) (s : Int) (j : Int), iter fu (LC.F tab (law_ColorPerfects_phi nf) (fun _ F => iter nf F) law_ColorPerfects_keep 4 (law_ColorPerfects_L4 nf G0 G2)) (law_ColorPerfects_m4 n' pairs r one i l'3 want3 s j) = law_ColorPerfects_l4 nf n' pairs r one i (fun l'2 want2 one i => G2 (law_ColorPerfects_m2 n' pairs r l'2 want2 one i)) (fun l' want => G0 (law_ColorPerfects_m0 n' pairs r l' want)) fu l'3 want3 s j := by
  intro fu
  induction fu with
  | zero => intros; rfl
  | succ fu ih =>
    intro l'3 want3 s j
    rw [law_ColorPerfects_h4 nf G0 G2 n' pairs r one i fu l'3 want3 s j]
    simp only [ih]
    rfl
theorem law_ColorPerfects_h2 (nf : Nat) (G0 : St → Option (Bool × Unit)) (n' : Int) (pairs : List (Int × Int × Unit)) (r : List Int × Int × Unit) (fu : Nat) (l'2 : List Int) (want2 : List Int) (one : Int) (i : Int) : iter (fu + 1) (LC.F tab (law_ColorPerfects_phi nf) (fun _ F => iter nf F) law_ColorPerfects_keep 2 (law_ColorPerfects_L2 nf G0)) (law_ColorPerfects_m2 n' pairs r l'2 want2 one i) = law_ColorPerfects_b2 nf (fun _ _ _ p3 p4 v0 v1 v2 v3 => iter nf (LC.F tab (law_ColorPerfects_phi nf) (fun _ F => iter nf F) law_ColorPerfects_keep 4 (law_ColorPerfects_L4 nf G0 (iter fu (LC.F tab (law_ColorPerfects_phi nf) (fun _ F => iter nf F) law_ColorPerfects_keep 2 (law_ColorPerfects_L2 nf G0))))) (law_ColorPerfects_m4 n' pairs r p3 p4 v0 v1 v2 v3)) n' pairs r (fun l' want => G0 (law_ColorPerfects_m0 n' pairs r l' want)) (fun l'2 want2 one i => iter fu (LC.F tab (law_ColorPerfects_phi nf) (fun _ F => iter nf F) law_ColorPerfects_keep 2 (law_ColorPerfects_L2 nf G0)) (law_ColorPerfects_m2 n' pairs r l'2 want2 one i)) l'2 want2 one i := by kernel_rfl
theorem law_ColorPerfects_e2 (nf : Nat) (G0 : St → Option (Bool × Unit)) (n' : Int) (pairs : List (Int × Int × Unit)) (r : List Int × Int × Unit) : ∀ (fu : Nat) (l'2 : List Int) (want2 : List Int) (one : Int) (i : Int), iter fu (LC.F tab (law_ColorPerfects_phi nf) (fun _ F => iter nf F) law_ColorPerfects_keep 2 (law_ColorPerfects_L2 nf G0)) (law_ColorPerfects_m2 n' pairs r l'2 want2 one i) = law_ColorPerfects_l2 nf n' pairs r (fun l' want => G0 (law_ColorPerfects_m0 n' pairs r l' want)) fu l'2 want2 one i := by
  intro fu
  induction fu with
  | zero => intros; rfl
  | succ fu ih =>
    intro l'2 want2 one i
    rw [law_ColorPerfects_h2 nf G0 n' pairs r fu l'2 want2 one i]
    simp only [ih, law_ColorPerfects_e4]
    rfl
theorem law_ColorPerfects_h0 (nf : Nat)  (n' : Int) (pairs : List (Int × Int × Unit)) (r : List Int × Int × Unit) (fu : Nat) (l' : List Int) (want : List Int) : iter (fu + 1) (LC.F tab (law_ColorPerfects_phi nf) (fun _ F => iter nf F) law_ColorPerfects_keep 0 (law_ColorPerfects_L0 nf )) (law_ColorPerfects_m0 n' pairs r l' want) = law_ColorPerfects_b0 nf (fun _ _ _ v0 v1 v2 v3 => iter nf (LC.F tab (law_ColorPerfects_phi nf) (fun _ F => iter nf F) law_ColorPerfects_keep 2 (law_ColorPerfects_L2 nf (iter fu (LC.F tab (law_ColorPerfects_phi nf) (fun _ F => iter nf F) law_ColorPerfects_keep 0 (law_ColorPerfects_L0 nf ))))) (law_ColorPerfects_m2 n' pairs r v0 v1 v2 v3)) n' pairs r  (fun l' want => iter fu (LC.F tab (law_ColorPerfects_phi nf) (fun _ F => iter nf F) law_ColorPerfects_keep 0 (law_ColorPerfects_L0 nf )) (law_ColorPerfects_m0 n' pairs r l' want)) l' want := by kernel_rfl
theorem law_ColorPerfects_e0 (nf : Nat)  (n' : Int) (pairs : List (Int × Int × Unit)) (r : List Int × Int × Unit) : ∀ (fu : Nat) (l' : List Int) (want : List Int), iter fu (LC.F tab (law_ColorPerfects_phi nf) (fun _ F => iter nf F) law_ColorPerfects_keep 0 (law_ColorPerfects_L0 nf )) (law_ColorPerfects_m0 n' pairs r l' want) = law_ColorPerfects_l0 nf n' pairs r  fu l' want := by
  intro fu
  induction fu with
  | zero => intros; rfl
  | succ fu ih =>
    intro l' want
    rw [law_ColorPerfects_h0 nf  n' pairs r fu l' want]
    simp only [ih, law_ColorPerfects_e2]
    rfl
theorem law_ColorPerfects_eq (nf : Nat) (n' : Int) (pairs : List (Int × Int × Unit)) : runF tab (law_ColorPerfects_phi nf) law_ColorPerfects_keep nf [PT.val (Ty.int IntKind.i64) (Md.bor true false), PT.val ((Ty.int IntKind.i64).pair ((Ty.int IntKind.i64).pair Ty.unit)).sl (Md.bor true false)] [(Ty.bool, Md.bor false true)] Try.f6.results.toList (codeOf Try.f6) ⟨n', pairs, ()⟩ = law_ColorPerfects_f nf n' pairs := by
  have h : runF tab (law_ColorPerfects_phi nf) law_ColorPerfects_keep nf [PT.val (Ty.int IntKind.i64) (Md.bor true false), PT.val ((Ty.int IntKind.i64).pair ((Ty.int IntKind.i64).pair Ty.unit)).sl (Md.bor true false)] [(Ty.bool, Md.bor false true)] Try.f6.results.toList (codeOf Try.f6) ⟨n', pairs, ()⟩ = law_ColorPerfects_p nf (fun p0 p1 p2 v0 v1 => iter nf (LC.F tab (law_ColorPerfects_phi nf) (fun _ F => iter nf F) law_ColorPerfects_keep 0 (law_ColorPerfects_L0 nf)) (law_ColorPerfects_m0 p0 p1 p2 v0 v1)) n' pairs := by kernel_rfl
  rw [h]
  simp only [law_ColorPerfects_e0]
  rfl
def law_ColorPerfects_F (nf : Nat) (x : denPs [.val (.int .i64) (.bor true false), .val (.sl (.pair (.int .i64) (.pair (.int .i64) (.unit)))) (.bor true false)]) : Option (denL [(.bool, .bor false true)]) := law_ColorPerfects_f nf x.1 x.2.1
def law_ColorPerfects_C (nf : Nat) : Contract := ⟨[.val (.int .i64) (.bor true false), .val (.sl (.pair (.int .i64) (.pair (.int .i64) (.unit)))) (.bor true false)], [(.bool, .bor false true)], law_ColorPerfects_F nf⟩
theorem law_ColorPerfects_ok : FnOK Try.prog 6 := ⟨Try.f6, codeOf Try.f6, Try.func6, by kernel_rfl, by kernel_rfl⟩
theorem law_ColorPerfects_holds (nf : Nat) : Contract.Holds Try.prog 6 (law_ColorPerfects_C nf) :=
  fn_holds (Φ := law_ColorPerfects_phi nf) (keep := law_ColorPerfects_keep) (n := nf) ⟨tabs.1, tabs.2, (ctx_cons ref_ClashCheck_ok (ref_ClashCheck_holds nf) (ctx_cons ref_Clash_ok (ref_Clash_holds nf) (ctx_cons ref_Cliques_ok (ref_Cliques_holds nf) (ctx_cons color_Perfect_ok (color_Perfect_holds nf) (ctx_cons ref_Has_ok (ref_Has_holds nf) (ctx_cons ref_Ints_ok (ref_Ints_holds nf) ctx_nil)))))), mixed⟩ (fn := Try.f6) ⟨Try.func6, by kernel_rfl, by kernel_rfl, by kernel_rfl⟩ (fun x => law_ColorPerfects_eq nf x.1 x.2.1)
end Go.Proofs.Ytgbldmehdipfaaa.S
