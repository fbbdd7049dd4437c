/- The functions of the code, as plain functions, and the theorems that say so: made by a program of this proof's own. -/
import Derived.Test.YtpnganfbonlphaaFn1
import Derived.Test.YtpnganfbonlphaaChecked
namespace Go.Proofs.Ytpnganfbonlphaa.S
open Go Go.Ab
noncomputable section

/-! codemason tile.wrong -/
def tile_wrong_phi (nf : Nat) : Nat → Option Contract := lookC [(29, need_Need_C nf)]
def tile_wrong_keep : Nat → List Nat := lookK [(0, [2, 23, 24, 25])]
def tile_wrong_b0 (nf : Nat) (tiles : List (Int × Int × Int × Int × Unit)) (g0 : Int → Option (Int × Unit)) (t25 : Int) : Option (Int × Unit) :=
  bif decide (t25 < (↑tiles.length : Int)) then
    bif inb t25 tiles.length then
      bif decide ((tiles.getD t25.toNat (0, 0, 0, 0, ())).fst < 1) then
        some ((6, ()))
      else
        bif decide ((if (tiles.getD t25.toNat (0, 0, 0, 0, ())).snd.snd.fst > if (tiles.getD t25.toNat (0, 0, 0, 0, ())).snd.fst > (tiles.getD t25.toNat (0, 0, 0, 0, ())).fst then (tiles.getD t25.toNat (0, 0, 0, 0, ())).snd.fst else (tiles.getD t25.toNat (0, 0, 0, 0, ())).fst then (tiles.getD t25.toNat (0, 0, 0, 0, ())).snd.snd.fst else if (tiles.getD t25.toNat (0, 0, 0, 0, ())).snd.fst > (tiles.getD t25.toNat (0, 0, 0, 0, ())).fst then (tiles.getD t25.toNat (0, 0, 0, 0, ())).snd.fst else (tiles.getD t25.toNat (0, 0, 0, 0, ())).fst) > 6) then
          some ((6, ()))
        else
          bif decide ((if (tiles.getD t25.toNat (0, 0, 0, 0, ())).snd.snd.fst < (tiles.getD t25.toNat (0, 0, 0, 0, ())).snd.fst then (tiles.getD t25.toNat (0, 0, 0, 0, ())).snd.snd.fst else (tiles.getD t25.toNat (0, 0, 0, 0, ())).snd.fst) < 0) then
            some ((6, ()))
          else
            bif decide ((tiles.getD t25.toNat (0, 0, 0, 0, ())).fst ≤ 2) then
              bif IntKind.i64.wrap (↑(BitVec.ofInt IntKind.i64.bits (tiles.getD t25.toNat (0, 0, 0, 0, ())).snd.fst ||| BitVec.ofInt IntKind.i64.bits (tiles.getD t25.toNat (0, 0, 0, 0, ())).snd.snd.fst).toNat : Int) != 0 then
                some ((3, ()))
              else
                bif decide ((tiles.getD t25.toNat (0, 0, 0, 0, ())).snd.snd.snd.fst < 0) then
                  some ((4, ()))
                else
                  bif decide ((tiles.getD t25.toNat (0, 0, 0, 0, ())).snd.snd.snd.fst > 99) then
                    some ((4, ()))
                  else
                    g0 (IntKind.i64.wrap (t25 + 1))
            else
              bif decide ((tiles.getD t25.toNat (0, 0, 0, 0, ())).snd.snd.snd.fst < 0) then
                some ((4, ()))
              else
                bif decide ((tiles.getD t25.toNat (0, 0, 0, 0, ())).snd.snd.snd.fst > 99) then
                  some ((4, ()))
                else
                  g0 (IntKind.i64.wrap (t25 + 1))
    else
      none
  else
    some ((0, ()))
def tile_wrong_p (nf : Nat) (l0 : List (Int × Int × Int × Int × Unit) → Int → Option (Int × Unit)) (vars : Int) (l' : List (Int × Int × Int × Int × Unit)) (tiles : List (Int × Int × Int × Int × Unit)) : Option (Int × Unit) :=
  Option.bind (need_Need_f nf vars l') fun r =>
  bif r.snd.fst != 0 then
    some ((r.snd.fst, ()))
  else
    bif decide ((↑tiles.length : Int) > 10) then
      some ((1, ()))
    else
      l0 tiles 0
def tile_wrong_l0 (nf : Nat) (tiles : List (Int × Int × Int × Int × Unit)) : Nat → Int → Option (Int × Unit)
  | 0, _ => none
  | fu + 1, t25 => tile_wrong_b0 nf  tiles  (tile_wrong_l0 nf tiles  fu) t25
def tile_wrong_f (nf : Nat) (vars : Int) (l' : List (Int × Int × Int × Int × Unit)) (tiles : List (Int × Int × Int × Int × Unit)) : Option (Int × Unit) := tile_wrong_p nf (fun p0 v0 => tile_wrong_l0 nf p0 nf v0) vars l' tiles
noncomputable def tile_wrong_L0 (nf : Nat) : LC (Int × Unit) := theL (findL tab (tile_wrong_phi nf) (fun _ F => iter nf F) tile_wrong_keep 0 0 (codeOf Try.f86) (fin tab [(Ty.int IntKind.i64, Md.bor false true)] (resL (none) Try.f86)) (fun _ _ => none) (fin tab [(Ty.int IntKind.i64, Md.bor false true)] (resL (none) Try.f86)))
def tile_wrong_m0 (tiles : List (Int × Int × Int × Int × Unit)) (t25 : Int) : St := ⟨fresh, [(2, AV.v ((Ty.int IntKind.i64).pair ((Ty.int IntKind.i64).pair ((Ty.int IntKind.i64).pair ((Ty.int IntKind.i64).pair Ty.unit)))).sl (Md.bor true false) tiles), (23, AV.v ((Ty.int IntKind.i64).pair ((Ty.int IntKind.i64).pair ((Ty.int IntKind.i64).pair ((Ty.int IntKind.i64).pair Ty.unit)))).sl (Md.bor true false) tiles), (24, AV.v (Ty.int IntKind.i64) (Md.bor false true) (↑tiles.length : Int)), (25, AV.v (Ty.int IntKind.i64) (Md.bor false true) t25)]⟩
theorem tile_wrong_h0 (nf : Nat)  (tiles : List (Int × Int × Int × Int × Unit)) (fu : Nat) (t25 : Int) : iter (fu + 1) (LC.F tab (tile_wrong_phi nf) (fun _ F => iter nf F) tile_wrong_keep 0 (tile_wrong_L0 nf )) (tile_wrong_m0 tiles t25) = tile_wrong_b0 nf  tiles  (fun t25 => iter fu (LC.F tab (tile_wrong_phi nf) (fun _ F => iter nf F) tile_wrong_keep 0 (tile_wrong_L0 nf )) (tile_wrong_m0 tiles t25)) t25 := by kernel_rfl
theorem tile_wrong_e0 (nf : Nat)  (tiles : List (Int × Int × Int × Int × Unit)) : ∀ (fu : Nat) (t25 : Int), iter fu (LC.F tab (tile_wrong_phi nf) (fun _ F => iter nf F) tile_wrong_keep 0 (tile_wrong_L0 nf )) (tile_wrong_m0 tiles t25) = tile_wrong_l0 nf tiles  fu t25 := by
  intro fu
  induction fu with
  | zero => intros; rfl
  | succ fu ih =>
    intro t25
    rw [tile_wrong_h0 nf  tiles fu t25]
    simp only [ih]
    rfl
theorem tile_wrong_eq (nf : Nat) (vars : Int) (l' : List (Int × Int × Int × Int × Unit)) (tiles : List (Int × Int × Int × Int × Unit)) : runF tab (tile_wrong_phi nf) tile_wrong_keep nf [PT.val (Ty.int IntKind.i64) (Md.bor true false), PT.val ((Ty.int IntKind.i64).pair ((Ty.int IntKind.i64).pair ((Ty.int IntKind.i64).pair ((Ty.int IntKind.i64).pair Ty.unit)))).sl (Md.bor true false), PT.val ((Ty.int IntKind.i64).pair ((Ty.int IntKind.i64).pair ((Ty.int IntKind.i64).pair ((Ty.int IntKind.i64).pair Ty.unit)))).sl (Md.bor true false)] [(Ty.int IntKind.i64, Md.bor false true)] (resL (none) Try.f86) (codeOf Try.f86) ⟨vars, l', tiles, ()⟩ = tile_wrong_f nf vars l' tiles := by
  have h : runF tab (tile_wrong_phi nf) tile_wrong_keep nf [PT.val (Ty.int IntKind.i64) (Md.bor true false), PT.val ((Ty.int IntKind.i64).pair ((Ty.int IntKind.i64).pair ((Ty.int IntKind.i64).pair ((Ty.int IntKind.i64).pair Ty.unit)))).sl (Md.bor true false), PT.val ((Ty.int IntKind.i64).pair ((Ty.int IntKind.i64).pair ((Ty.int IntKind.i64).pair ((Ty.int IntKind.i64).pair Ty.unit)))).sl (Md.bor true false)] [(Ty.int IntKind.i64, Md.bor false true)] (resL (none) Try.f86) (codeOf Try.f86) ⟨vars, l', tiles, ()⟩ = tile_wrong_p nf (fun p0 v0 => iter nf (LC.F tab (tile_wrong_phi nf) (fun _ F => iter nf F) tile_wrong_keep 0 (tile_wrong_L0 nf)) (tile_wrong_m0 p0 v0)) vars l' tiles := by kernel_rfl
  rw [h]
  simp only [tile_wrong_e0]
  rfl
def tile_wrong_F (nf : Nat) (x : denPs [.val (.int .i64) (.bor true false), .val (.sl (.pair (.int .i64) (.pair (.int .i64) (.pair (.int .i64) (.pair (.int .i64) (.unit)))))) (.bor true false), .val (.sl (.pair (.int .i64) (.pair (.int .i64) (.pair (.int .i64) (.pair (.int .i64) (.unit)))))) (.bor true false)]) : Option (denL [(.int .i64, .bor false true)]) := tile_wrong_f nf x.1 x.2.1 x.2.2.1
def tile_wrong_C (nf : Nat) : Contract := ⟨[.val (.int .i64) (.bor true false), .val (.sl (.pair (.int .i64) (.pair (.int .i64) (.pair (.int .i64) (.pair (.int .i64) (.unit)))))) (.bor true false), .val (.sl (.pair (.int .i64) (.pair (.int .i64) (.pair (.int .i64) (.pair (.int .i64) (.unit)))))) (.bor true false)], [(.int .i64, .bor false true)], tile_wrong_F nf, none⟩
theorem tile_wrong_ok : FnOK Try.prog 86 := ⟨Try.f86, codeOf Try.f86, Try.func86, by kernel_rfl, by kernel_rfl⟩
theorem tile_wrong_holds (nf : Nat) : Contract.Holds Try.prog 86 (tile_wrong_C nf) :=
  fn_holds (Φ := tile_wrong_phi nf) (keep := tile_wrong_keep) (n := nf) ⟨tabs.1, tabs.2, (ctx_cons need_Need_ok (need_Need_holds nf) ctx_nil), mixed⟩ (fn := Try.f86) ⟨Try.func86, by kernel_rfl, by kernel_rfl, by kernel_rfl⟩ (fun x => tile_wrong_eq nf x.1 x.2.1 x.2.2.1)

/-! codemason tile.below -/
def tile_below_phi (nf : Nat) : Nat → Option Contract := lookC []
def tile_below_keep : Nat → List Nat := lookK [(0, [0, 8, 9, 29, 30, 31, 48, 72])]
def tile_below_b0 (nf : Nat) (l' : List (Int × Int × Int × Int × Unit)) (t : Int × Int × Int × Int × Unit) (g0 : Int × Int × Int × Int × Unit → List Int → List Int → Int → Option (List Int × Bool × Unit)) (x : Int × Int × Int × Int × Unit) (out : List Int) (t29 : List Int) (t31 : Int) : Option (List Int × Bool × Unit) :=
  bif decide (t31 < (↑[t.snd.fst, t.snd.snd.fst].length : Int)) then
    bif inb t31 t29.length then
      bif t31 == 1 then
        bif t29.getD t31.toNat 0 == 0 then
          bif bimp false ![x.snd.snd.fst].isEmpty && (out.length + [x.snd.snd.fst].length).ble lim then
            g0 x (out ++ [x.snd.snd.fst]) t29 (IntKind.i64.wrap (t31 + 1))
          else
            none
        else
          bif inb x.snd.snd.fst l'.length then
            bif (l'.getD (Int.toNat x.snd.snd.fst) (0, 0, 0, 0, ())).fst != t29.getD t31.toNat 0 then
              some (([], false, ()))
            else
              bif decide (t29.getD t31.toNat 0 > 2) then
                bif inb x.snd.snd.fst l'.length then
                  bif inb x.snd.snd.fst l'.length then
                    bif bimp false ![(l'.getD (Int.toNat x.snd.snd.fst) (0, 0, 0, 0, ())).snd.fst, (l'.getD (Int.toNat x.snd.snd.fst) (0, 0, 0, 0, ())).snd.snd.fst].isEmpty && (out.length + [(l'.getD (Int.toNat x.snd.snd.fst) (0, 0, 0, 0, ())).snd.fst, (l'.getD (Int.toNat x.snd.snd.fst) (0, 0, 0, 0, ())).snd.snd.fst].length).ble lim then
                      g0 x (out ++ [(l'.getD (Int.toNat x.snd.snd.fst) (0, 0, 0, 0, ())).snd.fst, (l'.getD (Int.toNat x.snd.snd.fst) (0, 0, 0, 0, ())).snd.snd.fst]) t29 (IntKind.i64.wrap (t31 + 1))
                    else
                      none
                  else
                    none
                else
                  none
              else
                g0 x out t29 (IntKind.i64.wrap (t31 + 1))
          else
            none
      else
        bif t29.getD t31.toNat 0 == 0 then
          bif bimp false ![x.snd.fst].isEmpty && (out.length + [x.snd.fst].length).ble lim then
            g0 x (out ++ [x.snd.fst]) t29 (IntKind.i64.wrap (t31 + 1))
          else
            none
        else
          bif inb x.snd.fst l'.length then
            bif (l'.getD (Int.toNat x.snd.fst) (0, 0, 0, 0, ())).fst != t29.getD t31.toNat 0 then
              some (([], false, ()))
            else
              bif decide (t29.getD t31.toNat 0 > 2) then
                bif inb x.snd.fst l'.length then
                  bif inb x.snd.fst l'.length then
                    bif bimp false ![(l'.getD (Int.toNat x.snd.fst) (0, 0, 0, 0, ())).snd.fst, (l'.getD (Int.toNat x.snd.fst) (0, 0, 0, 0, ())).snd.snd.fst].isEmpty && (out.length + [(l'.getD (Int.toNat x.snd.fst) (0, 0, 0, 0, ())).snd.fst, (l'.getD (Int.toNat x.snd.fst) (0, 0, 0, 0, ())).snd.snd.fst].length).ble lim then
                      g0 x (out ++ [(l'.getD (Int.toNat x.snd.fst) (0, 0, 0, 0, ())).snd.fst, (l'.getD (Int.toNat x.snd.fst) (0, 0, 0, 0, ())).snd.snd.fst]) t29 (IntKind.i64.wrap (t31 + 1))
                    else
                      none
                  else
                    none
                else
                  none
              else
                g0 x out t29 (IntKind.i64.wrap (t31 + 1))
          else
            none
    else
      none
  else
    some ((out, true, ()))
def tile_below_p (nf : Nat) (l0 : List (Int × Int × Int × Int × Unit) → Int × Int × Int × Int × Unit → Int × Int × Int × Int × Unit → List Int → List Int → Int → Option (List Int × Bool × Unit)) (l' : List (Int × Int × Int × Int × Unit)) (i : Int) (t : Int × Int × Int × Int × Unit) : Option (List Int × Bool × Unit) :=
  bif inb i l'.length then
    bif (l'.getD i.toNat (0, 0, 0, 0, ())).fst != t.fst then
      some (([], false, ()))
    else
      bif decide ((l'.getD i.toNat (0, 0, 0, 0, ())).fst ≤ 2) then
        some (([], true, ()))
      else
        l0 l' t (l'.getD i.toNat (0, 0, 0, 0, ())) [] ([t.snd.fst, t.snd.snd.fst]) 0
  else
    none
def tile_below_l0 (nf : Nat) (l' : List (Int × Int × Int × Int × Unit)) (t : Int × Int × Int × Int × Unit) : Nat → Int × Int × Int × Int × Unit → List Int → List Int → Int → Option (List Int × Bool × Unit)
  | 0, _, _, _, _ => none
  | fu + 1, x, out, t29, t31 => tile_below_b0 nf  l' t  (tile_below_l0 nf l' t  fu) x out t29 t31
def tile_below_f (nf : Nat) (l' : List (Int × Int × Int × Int × Unit)) (i : Int) (t : Int × Int × Int × Int × Unit) : Option (List Int × Bool × Unit) := tile_below_p nf (fun p0 p1 v0 v1 v2 v3 => tile_below_l0 nf p0 p1 nf v0 v1 v2 v3) l' i t
noncomputable def tile_below_L0 (nf : Nat) : LC (List Int × Bool × Unit) := theL (findL tab (tile_below_phi nf) (fun _ F => iter nf F) tile_below_keep 0 0 (codeOf Try.f89) (fin tab [((Ty.int IntKind.i64).sl, Md.own false (Md.bor false false)), (Ty.bool, Md.bor false true)] (resL (none) Try.f89)) (fun _ _ => none) (fin tab [((Ty.int IntKind.i64).sl, Md.own false (Md.bor false false)), (Ty.bool, Md.bor false true)] (resL (none) Try.f89)))
def tile_below_m0 (l' : List (Int × Int × Int × Int × Unit)) (t : Int × Int × Int × Int × Unit) (x : Int × Int × Int × Int × Unit) (out : List Int) (t29 : List Int) (t31 : Int) : St := ⟨fresh, [(0, AV.v ((Ty.int IntKind.i64).pair ((Ty.int IntKind.i64).pair ((Ty.int IntKind.i64).pair ((Ty.int IntKind.i64).pair Ty.unit)))).sl (Md.bor true false) l'), (8, AV.box 8 500008 ((Ty.int IntKind.i64).pair ((Ty.int IntKind.i64).pair ((Ty.int IntKind.i64).pair ((Ty.int IntKind.i64).pair Ty.unit)))) (Md.bor true false) x), (9, AV.ow 500009 (Ty.int IntKind.i64).sl (Md.own false (Md.bor false false)) out), (29, AV.ow 500029 (Ty.int IntKind.i64).sl (Md.own false (Md.bor false false)) t29), (30, AV.v (Ty.int IntKind.i64) (Md.bor false true) (↑[t.snd.fst, t.snd.snd.fst].length : Int)), (31, AV.v (Ty.int IntKind.i64) (Md.bor false true) t31), (48, AV.dead), (72, AV.dead)]⟩
theorem tile_below_h0 (nf : Nat)  (l' : List (Int × Int × Int × Int × Unit)) (t : Int × Int × Int × Int × Unit) (fu : Nat) (x : Int × Int × Int × Int × Unit) (out : List Int) (t29 : List Int) (t31 : Int) : iter (fu + 1) (LC.F tab (tile_below_phi nf) (fun _ F => iter nf F) tile_below_keep 0 (tile_below_L0 nf )) (tile_below_m0 l' t x out t29 t31) = tile_below_b0 nf  l' t  (fun x out t29 t31 => iter fu (LC.F tab (tile_below_phi nf) (fun _ F => iter nf F) tile_below_keep 0 (tile_below_L0 nf )) (tile_below_m0 l' t x out t29 t31)) x out t29 t31 := by kernel_rfl
theorem tile_below_e0 (nf : Nat)  (l' : List (Int × Int × Int × Int × Unit)) (t : Int × Int × Int × Int × Unit) : ∀ (fu : Nat) (x : Int × Int × Int × Int × Unit) (out : List Int) (t29 : List Int) (t31 : Int), iter fu (LC.F tab (tile_below_phi nf) (fun _ F => iter nf F) tile_below_keep 0 (tile_below_L0 nf )) (tile_below_m0 l' t x out t29 t31) = tile_below_l0 nf l' t  fu x out t29 t31 := by
  intro fu
  induction fu with
  | zero => intros; rfl
  | succ fu ih =>
    intro x out t29 t31
    rw [tile_below_h0 nf  l' t fu x out t29 t31]
    simp only [ih]
    rfl
theorem tile_below_eq (nf : Nat) (l' : List (Int × Int × Int × Int × Unit)) (i : Int) (t : Int × Int × Int × Int × Unit) : runF tab (tile_below_phi nf) tile_below_keep nf [PT.val ((Ty.int IntKind.i64).pair ((Ty.int IntKind.i64).pair ((Ty.int IntKind.i64).pair ((Ty.int IntKind.i64).pair Ty.unit)))).sl (Md.bor true false), PT.val (Ty.int IntKind.i64) (Md.bor true false), PT.val ((Ty.int IntKind.i64).pair ((Ty.int IntKind.i64).pair ((Ty.int IntKind.i64).pair ((Ty.int IntKind.i64).pair Ty.unit)))) (Md.bor true false)] [((Ty.int IntKind.i64).sl, Md.own false (Md.bor false false)), (Ty.bool, Md.bor false true)] (resL (none) Try.f89) (codeOf Try.f89) ⟨l', i, t, ()⟩ = tile_below_f nf l' i t := by
  have h : runF tab (tile_below_phi nf) tile_below_keep nf [PT.val ((Ty.int IntKind.i64).pair ((Ty.int IntKind.i64).pair ((Ty.int IntKind.i64).pair ((Ty.int IntKind.i64).pair Ty.unit)))).sl (Md.bor true false), PT.val (Ty.int IntKind.i64) (Md.bor true false), PT.val ((Ty.int IntKind.i64).pair ((Ty.int IntKind.i64).pair ((Ty.int IntKind.i64).pair ((Ty.int IntKind.i64).pair Ty.unit)))) (Md.bor true false)] [((Ty.int IntKind.i64).sl, Md.own false (Md.bor false false)), (Ty.bool, Md.bor false true)] (resL (none) Try.f89) (codeOf Try.f89) ⟨l', i, t, ()⟩ = tile_below_p nf (fun p0 p1 v0 v1 v2 v3 => iter nf (LC.F tab (tile_below_phi nf) (fun _ F => iter nf F) tile_below_keep 0 (tile_below_L0 nf)) (tile_below_m0 p0 p1 v0 v1 v2 v3)) l' i t := by kernel_rfl
  rw [h]
  simp only [tile_below_e0]
  rfl
def tile_below_F (nf : Nat) (x : denPs [.val (.sl (.pair (.int .i64) (.pair (.int .i64) (.pair (.int .i64) (.pair (.int .i64) (.unit)))))) (.bor true false), .val (.int .i64) (.bor true false), .val (.pair (.int .i64) (.pair (.int .i64) (.pair (.int .i64) (.pair (.int .i64) (.unit))))) (.bor true false)]) : Option (denL [(.sl (.int .i64), .own false (.bor false false)), (.bool, .bor false true)]) := tile_below_f nf x.1 x.2.1 x.2.2.1
def tile_below_C (nf : Nat) : Contract := ⟨[.val (.sl (.pair (.int .i64) (.pair (.int .i64) (.pair (.int .i64) (.pair (.int .i64) (.unit)))))) (.bor true false), .val (.int .i64) (.bor true false), .val (.pair (.int .i64) (.pair (.int .i64) (.pair (.int .i64) (.pair (.int .i64) (.unit))))) (.bor true false)], [(.sl (.int .i64), .own false (.bor false false)), (.bool, .bor false true)], tile_below_F nf, none⟩
theorem tile_below_ok : FnOK Try.prog 89 := ⟨Try.f89, codeOf Try.f89, Try.func89, by kernel_rfl, by kernel_rfl⟩
theorem tile_below_holds (nf : Nat) : Contract.Holds Try.prog 89 (tile_below_C nf) :=
  fn_holds (Φ := tile_below_phi nf) (keep := tile_below_keep) (n := nf) ⟨tabs.1, tabs.2, ctx_nil, mixed⟩ (fn := Try.f89) ⟨Try.func89, by kernel_rfl, by kernel_rfl, by kernel_rfl⟩ (fun x => tile_below_eq nf x.1 x.2.1 x.2.2.1)

/-! codemason tile.solve -/
def tile_solve_phi (nf : Nat) : Nat → Option Contract := lookC [(89, tile_below_C nf)]
def tile_solve_keep : Nat → List Nat := lookK [(4, [0, 1, 6, 7, 8, 9, 10, 11, 13, 14, 15, 19, 20, 23, 24, 25, 30, 34, 35, 39, 40, 41, 76, 80]), (2, [0, 1, 6, 7, 8, 9, 10, 19, 20, 23, 24, 25, 76, 80]), (0, [0, 1, 6, 7, 19, 20, 76, 80])]
def tile_solve_b0 (nf : Nat) (l2 : List (Int × Int × Int × Int × Unit) → List (Int × Int × Int × Int × Unit) → Int → List Int → List Int → Int → Int → Int → Option (List Int × List Int × Unit)) (l' : List (Int × Int × Int × Int × Unit)) (tiles : List (Int × Int × Int × Int × Unit)) (g0 : List Int → List Int → Int → Option (List Int × List Int × Unit)) (cost : List Int) (by' : List Int) (t20 : Int) : Option (List Int × List Int × Unit) :=
  bif decide (t20 < (↑l'.length : Int)) then
    l2 l' tiles t20 cost by' (-1) (-1) 0
  else
    some ((cost, by', ()))
def tile_solve_b2 (nf : Nat) (l4 : List (Int × Int × Int × Int × Unit) → List (Int × Int × Int × Int × Unit) → Int → Int → Int → Int → List Int × Bool × Unit → List Int → List Int → List Int → Bool → Int → Int → Option (List Int × List Int × Unit)) (l' : List (Int × Int × Int × Int × Unit)) (tiles : List (Int × Int × Int × Int × Unit)) (t20 : Int) (g0 : List Int → List Int → Int → Option (List Int × List Int × Unit)) (g2 : List Int → List Int → Int → Int → Int → Option (List Int × List Int × Unit)) (cost2 : List Int) (by'2 : List Int) (best : Int) (which : Int) (t25 : Int) : Option (List Int × List Int × Unit) :=
  bif decide (t25 < (↑tiles.length : Int)) then
    bif inb t25 tiles.length then
      Option.bind (tile_below_f nf l' t20 (tiles.getD t25.toNat (0, 0, 0, 0, ()))) fun r =>
      l4 l' tiles t20 best which t25 r cost2 by'2 r.fst r.snd.fst ((tiles.getD t25.toNat (0, 0, 0, 0, ())).snd.snd.snd.fst) 0
    else
      none
  else
    bif bimp false ![best].isEmpty && (cost2.length + [best].length).ble lim then
      bif bimp false ![which].isEmpty && (by'2.length + [which].length).ble lim then
        g0 (cost2 ++ [best]) (by'2 ++ [which]) (IntKind.i64.wrap (t20 + 1))
      else
        none
    else
      none
def tile_solve_b4 (nf : Nat) (l' : List (Int × Int × Int × Int × Unit)) (tiles : List (Int × Int × Int × Int × Unit)) (t20 : Int) (best : Int) (which : Int) (t25 : Int) (r : List Int × Bool × Unit) (g2 : List Int → List Int → Int → Int → Int → Option (List Int × List Int × Unit)) (g0 : List Int → List Int → Int → Option (List Int × List Int × Unit)) (g4 : List Int → List Int → List Int → Bool → Int → Int → Option (List Int × List Int × Unit)) (cost3 : List Int) (by'3 : List Int) (rest : List Int) (ok : Bool) (sum : Int) (t41 : Int) : Option (List Int × List Int × Unit) :=
  bif decide (t41 < (↑(List.length r.fst) : Int)) then
    bif inb t41 rest.length then
      bif ok then
        bif inb (rest.getD t41.toNat 0) cost3.length then
          bif inb (rest.getD t41.toNat 0) cost3.length then
            g4 cost3 by'3 rest (decide (cost3.getD (Int.toNat (rest.getD t41.toNat 0)) 0 ≥ 0)) (IntKind.i64.wrap (sum + cost3.getD (Int.toNat (rest.getD t41.toNat 0)) 0)) (IntKind.i64.wrap (t41 + 1))
          else
            none
        else
          none
      else
        bif inb (rest.getD t41.toNat 0) cost3.length then
          g4 cost3 by'3 rest false (IntKind.i64.wrap (sum + cost3.getD (Int.toNat (rest.getD t41.toNat 0)) 0)) (IntKind.i64.wrap (t41 + 1))
        else
          none
    else
      none
  else
    bif ok then
      bif decide (best < 0) then
        g2 cost3 by'3 sum t25 (IntKind.i64.wrap (t25 + 1))
      else
        bif decide (sum < best) then
          g2 cost3 by'3 sum t25 (IntKind.i64.wrap (t25 + 1))
        else
          g2 cost3 by'3 best which (IntKind.i64.wrap (t25 + 1))
    else
      g2 cost3 by'3 best which (IntKind.i64.wrap (t25 + 1))
def tile_solve_p (nf : Nat) (l0 : List (Int × Int × Int × Int × Unit) → List (Int × Int × Int × Int × Unit) → List Int → List Int → Int → Option (List Int × List Int × Unit)) (l' : List (Int × Int × Int × Int × Unit)) (tiles : List (Int × Int × Int × Int × Unit)) : Option (List Int × List Int × Unit) :=
  l0 l' tiles [] [] 0
def tile_solve_l4 (nf : Nat) (l' : List (Int × Int × Int × Int × Unit)) (tiles : List (Int × Int × Int × Int × Unit)) (t20 : Int) (best : Int) (which : Int) (t25 : Int) (r : List Int × Bool × Unit) (g2 : List Int → List Int → Int → Int → Int → Option (List Int × List Int × Unit)) (g0 : List Int → List Int → Int → Option (List Int × List Int × Unit)) : Nat → List Int → List Int → List Int → Bool → Int → Int → Option (List Int × List Int × Unit)
  | 0, _, _, _, _, _, _ => none
  | fu + 1, cost3, by'3, rest, ok, sum, t41 => tile_solve_b4 nf  l' tiles t20 best which t25 r g2 g0 (tile_solve_l4 nf l' tiles t20 best which t25 r g2 g0 fu) cost3 by'3 rest ok sum t41
def tile_solve_l2 (nf : Nat) (l' : List (Int × Int × Int × Int × Unit)) (tiles : List (Int × Int × Int × Int × Unit)) (t20 : Int) (g0 : List Int → List Int → Int → Option (List Int × List Int × Unit)) : Nat → List Int → List Int → Int → Int → Int → Option (List Int × List Int × Unit)
  | 0, _, _, _, _, _ => none
  | fu + 1, cost2, by'2, best, which, t25 => tile_solve_b2 nf (fun _ _ _ p3 p4 p5 p6 v0 v1 v2 v3 v4 v5 => tile_solve_l4 nf l' tiles t20 p3 p4 p5 p6 (fun cost2 by'2 best which t25 => tile_solve_l2 nf l' tiles t20 g0 fu cost2 by'2 best which t25) g0 nf v0 v1 v2 v3 v4 v5) l' tiles t20 g0 (tile_solve_l2 nf l' tiles t20 g0 fu) cost2 by'2 best which t25
def tile_solve_l0 (nf : Nat) (l' : List (Int × Int × Int × Int × Unit)) (tiles : List (Int × Int × Int × Int × Unit)) : Nat → List Int → List Int → Int → Option (List Int × List Int × Unit)
  | 0, _, _, _ => none
  | fu + 1, cost, by', t20 => tile_solve_b0 nf (fun _ _ p2 v0 v1 v2 v3 v4 => tile_solve_l2 nf l' tiles p2 (fun cost by' t20 => tile_solve_l0 nf l' tiles  fu cost by' t20) nf v0 v1 v2 v3 v4) l' tiles  (tile_solve_l0 nf l' tiles  fu) cost by' t20
def tile_solve_f (nf : Nat) (l' : List (Int × Int × Int × Int × Unit)) (tiles : List (Int × Int × Int × Int × Unit)) : Option (List Int × List Int × Unit) := tile_solve_p nf (fun p0 p1 v0 v1 v2 => tile_solve_l0 nf p0 p1 nf v0 v1 v2) l' tiles
noncomputable def tile_solve_L0 (nf : Nat) : LC (List Int × List Int × Unit) := theL (findL tab (tile_solve_phi nf) (fun _ F => iter nf F) tile_solve_keep 0 0 (codeOf Try.f87) (fin tab [((Ty.int IntKind.i64).sl, Md.own false (Md.bor false false)), ((Ty.int IntKind.i64).sl, Md.own false (Md.bor false false))] (resL (none) Try.f87)) (fun _ _ => none) (fin tab [((Ty.int IntKind.i64).sl, Md.own false (Md.bor false false)), ((Ty.int IntKind.i64).sl, Md.own false (Md.bor false false))] (resL (none) Try.f87)))
def tile_solve_m0 (l' : List (Int × Int × Int × Int × Unit)) (tiles : List (Int × Int × Int × Int × Unit)) (cost : List Int) (by' : List Int) (t20 : Int) : St := ⟨fresh, [(0, AV.v ((Ty.int IntKind.i64).pair ((Ty.int IntKind.i64).pair ((Ty.int IntKind.i64).pair ((Ty.int IntKind.i64).pair Ty.unit)))).sl (Md.bor true false) l'), (1, AV.v ((Ty.int IntKind.i64).pair ((Ty.int IntKind.i64).pair ((Ty.int IntKind.i64).pair ((Ty.int IntKind.i64).pair Ty.unit)))).sl (Md.bor true false) tiles), (6, AV.ow 500006 (Ty.int IntKind.i64).sl (Md.own false (Md.bor false false)) cost), (7, AV.ow 500007 (Ty.int IntKind.i64).sl (Md.own false (Md.bor false false)) by'), (19, AV.v (Ty.int IntKind.i64) (Md.bor false true) (↑l'.length : Int)), (20, AV.v (Ty.int IntKind.i64) (Md.bor false true) t20), (76, AV.dead), (80, AV.dead)]⟩
noncomputable def tile_solve_L2 (nf : Nat) (G0 : St → Option (List Int × List Int × Unit)) : LC (List Int × List Int × Unit) := theL (findL tab (tile_solve_phi nf) (fun _ F => iter nf F) tile_solve_keep 2 0 (tile_solve_L0 nf ).c (fun st => norm (tile_solve_keep 0) st G0) (tile_solve_L0 nf ).Kx (tile_solve_L0 nf ).Kr)
def tile_solve_m2 (l' : List (Int × Int × Int × Int × Unit)) (tiles : List (Int × Int × Int × Int × Unit)) (t20 : Int) (cost2 : List Int) (by'2 : List Int) (best : Int) (which : Int) (t25 : Int) : St := ⟨fresh, [(0, AV.v ((Ty.int IntKind.i64).pair ((Ty.int IntKind.i64).pair ((Ty.int IntKind.i64).pair ((Ty.int IntKind.i64).pair Ty.unit)))).sl (Md.bor true false) l'), (1, AV.v ((Ty.int IntKind.i64).pair ((Ty.int IntKind.i64).pair ((Ty.int IntKind.i64).pair ((Ty.int IntKind.i64).pair Ty.unit)))).sl (Md.bor true false) tiles), (6, AV.ow 500006 (Ty.int IntKind.i64).sl (Md.own false (Md.bor false false)) cost2), (7, AV.ow 500007 (Ty.int IntKind.i64).sl (Md.own false (Md.bor false false)) by'2), (8, AV.v (Ty.int IntKind.i64) (Md.bor false true) t20), (9, AV.v (Ty.int IntKind.i64) (Md.bor false true) best), (10, AV.v (Ty.int IntKind.i64) (Md.bor false true) which), (19, AV.v (Ty.int IntKind.i64) (Md.bor false true) (↑l'.length : Int)), (20, AV.v (Ty.int IntKind.i64) (Md.bor false true) t20), (23, AV.v ((Ty.int IntKind.i64).pair ((Ty.int IntKind.i64).pair ((Ty.int IntKind.i64).pair ((Ty.int IntKind.i64).pair Ty.unit)))).sl (Md.bor true false) tiles), (24, AV.v (Ty.int IntKind.i64) (Md.bor false true) (↑tiles.length : Int)), (25, AV.v (Ty.int IntKind.i64) (Md.bor false true) t25), (76, AV.dead), (80, AV.dead)]⟩
noncomputable def tile_solve_L4 (nf : Nat) (G0 : St → Option (List Int × List Int × Unit)) (G2 : St → Option (List Int × List Int × Unit)) : LC (List Int × List Int × Unit) := theL (findL tab (tile_solve_phi nf) (fun _ F => iter nf F) tile_solve_keep 4 2 (tile_solve_L2 nf G0).c (fun st => norm (tile_solve_keep 2) st G2) (tile_solve_L2 nf G0).Kx (tile_solve_L2 nf G0).Kr)
def tile_solve_m4 (l' : List (Int × Int × Int × Int × Unit)) (tiles : List (Int × Int × Int × Int × Unit)) (t20 : Int) (best : Int) (which : Int) (t25 : Int) (r : List Int × Bool × Unit) (cost3 : List Int) (by'3 : List Int) (rest : List Int) (ok : Bool) (sum : Int) (t41 : Int) : St := ⟨fresh, [(0, AV.v ((Ty.int IntKind.i64).pair ((Ty.int IntKind.i64).pair ((Ty.int IntKind.i64).pair ((Ty.int IntKind.i64).pair Ty.unit)))).sl (Md.bor true false) l'), (1, AV.v ((Ty.int IntKind.i64).pair ((Ty.int IntKind.i64).pair ((Ty.int IntKind.i64).pair ((Ty.int IntKind.i64).pair Ty.unit)))).sl (Md.bor true false) tiles), (6, AV.ow 500006 (Ty.int IntKind.i64).sl (Md.own false (Md.bor false false)) cost3), (7, AV.ow 500007 (Ty.int IntKind.i64).sl (Md.own false (Md.bor false false)) by'3), (8, AV.v (Ty.int IntKind.i64) (Md.bor false true) t20), (9, AV.v (Ty.int IntKind.i64) (Md.bor false true) best), (10, AV.v (Ty.int IntKind.i64) (Md.bor false true) which), (11, AV.v (Ty.int IntKind.i64) (Md.bor false true) t25), (13, AV.ow 500013 (Ty.int IntKind.i64).sl (Md.own false (Md.bor false false)) rest), (14, AV.v Ty.bool (Md.bor false true) ok), (15, AV.v (Ty.int IntKind.i64) (Md.bor false true) sum), (19, AV.v (Ty.int IntKind.i64) (Md.bor false true) (↑l'.length : Int)), (20, AV.v (Ty.int IntKind.i64) (Md.bor false true) t20), (23, AV.v ((Ty.int IntKind.i64).pair ((Ty.int IntKind.i64).pair ((Ty.int IntKind.i64).pair ((Ty.int IntKind.i64).pair Ty.unit)))).sl (Md.bor true false) tiles), (24, AV.v (Ty.int IntKind.i64) (Md.bor false true) (↑tiles.length : Int)), (25, AV.v (Ty.int IntKind.i64) (Md.bor false true) t25), (30, AV.dead), (34, AV.dead), (35, AV.dead), (39, AV.al 13 500013 []), (40, AV.v (Ty.int IntKind.i64) (Md.bor false true) (↑(List.length r.fst) : Int)), (41, AV.v (Ty.int IntKind.i64) (Md.bor false true) t41), (76, AV.dead), (80, AV.dead)]⟩
theorem tile_solve_h4 (nf : Nat) (G0 : St → Option (List Int × List Int × Unit)) (G2 : St → Option (List Int × List Int × Unit)) (l' : List (Int × Int × Int × Int × Unit)) (tiles : List (Int × Int × Int × Int × Unit)) (t20 : Int) (best : Int) (which : Int) (t25 : Int) (r : List Int × Bool × Unit) (fu : Nat) (cost3 : List Int) (by'3 : List Int) (rest : List Int) (ok : Bool) (sum : Int) (t41 : Int) : iter (fu + 1) (LC.F tab (tile_solve_phi nf) (fun _ F => iter nf F) tile_solve_keep 4 (tile_solve_L4 nf G0 G2)) (tile_solve_m4 l' tiles t20 best which t25 r cost3 by'3 rest ok sum t41) = tile_solve_b4 nf  l' tiles t20 best which t25 r (fun cost2 by'2 best which t25 => G2 (tile_solve_m2 l' tiles t20 cost2 by'2 best which t25)) (fun cost by' t20 => G0 (tile_solve_m0 l' tiles cost by' t20)) (fun cost3 by'3 rest ok sum t41 => iter fu (LC.F tab (tile_solve_phi nf) (fun _ F => iter nf F) tile_solve_keep 4 (tile_solve_L4 nf G0 G2)) (tile_solve_m4 l' tiles t20 best which t25 r cost3 by'3 rest ok sum t41)) cost3 by'3 rest ok sum t41 := by kernel_rfl
theorem tile_solve_e4 (nf : Nat) (G0 : St → Option (List Int × List Int × Unit)) (G2 : St → Option (List Int × List Int × Unit)) (l' : List (Int × Int × Int × Int × Unit)) (tiles : List (Int × Int × Int × Int × Unit)) (t20 : Int) (best : Int) (which : Int) (t25 : Int) (r : List Int × Bool × Unit) : ∀ (fu : Nat) (cost3 : List Int) (by'3 : List Int) (rest : List Int) (ok : Bool) (sum : Int) (t41 : Int), iter fu (LC.F tab (tile_solve_phi nf) (fun _ F => iter nf F) tile_solve_keep 4 (tile_solve_L4 nf G0 G2)) (tile_solve_m4 l' tiles t20 best which t25 r cost3 by'3 rest ok sum t41) = tile_solve_l4 nf l' tiles t20 best which t25 r (fun cost2 by'2 best which t25 => G2 (tile_solve_m2 l' tiles t20 cost2 by'2 best which t25)) (fun cost by' t20 => G0 (tile_solve_m0 l' tiles cost by' t20)) fu cost3 by'3 rest ok sum t41 := by
  intro fu
  induction fu with
  | zero => intros; rfl
  | succ fu ih =>
    intro cost3 by'3 rest ok sum t41
    rw [tile_solve_h4 nf G0 G2 l' tiles t20 best which t25 r fu cost3 by'3 rest ok sum t41]
    simp only [ih]
    rfl
theorem tile_solve_h2 (nf : Nat) (G0 : St → Option (List Int × List Int × Unit)) (l' : List (Int × Int × Int × Int × Unit)) (tiles : List (Int × Int × Int × Int × Unit)) (t20 : Int) (fu : Nat) (cost2 : List Int) (by'2 : List Int) (best : Int) (which : Int) (t25 : Int) : iter (fu + 1) (LC.F tab (tile_solve_phi nf) (fun _ F => iter nf F) tile_solve_keep 2 (tile_solve_L2 nf G0)) (tile_solve_m2 l' tiles t20 cost2 by'2 best which t25) = tile_solve_b2 nf (fun _ _ _ p3 p4 p5 p6 v0 v1 v2 v3 v4 v5 => iter nf (LC.F tab (tile_solve_phi nf) (fun _ F => iter nf F) tile_solve_keep 4 (tile_solve_L4 nf G0 (iter fu (LC.F tab (tile_solve_phi nf) (fun _ F => iter nf F) tile_solve_keep 2 (tile_solve_L2 nf G0))))) (tile_solve_m4 l' tiles t20 p3 p4 p5 p6 v0 v1 v2 v3 v4 v5)) l' tiles t20 (fun cost by' t20 => G0 (tile_solve_m0 l' tiles cost by' t20)) (fun cost2 by'2 best which t25 => iter fu (LC.F tab (tile_solve_phi nf) (fun _ F => iter nf F) tile_solve_keep 2 (tile_solve_L2 nf G0)) (tile_solve_m2 l' tiles t20 cost2 by'2 best which t25)) cost2 by'2 best which t25 := by kernel_rfl
theorem tile_solve_e2 (nf : Nat) (G0 : St → Option (List Int × List Int × Unit)) (l' : List (Int × Int × Int × Int × Unit)) (tiles : List (Int × Int × Int × Int × Unit)) (t20 : Int) : ∀ (fu : Nat) (cost2 : List Int) (by'2 : List Int) (best : Int) (which : Int) (t25 : Int), iter fu (LC.F tab (tile_solve_phi nf) (fun _ F => iter nf F) tile_solve_keep 2 (tile_solve_L2 nf G0)) (tile_solve_m2 l' tiles t20 cost2 by'2 best which t25) = tile_solve_l2 nf l' tiles t20 (fun cost by' t20 => G0 (tile_solve_m0 l' tiles cost by' t20)) fu cost2 by'2 best which t25 := by
  intro fu
  induction fu with
  | zero => intros; rfl
  | succ fu ih =>
    intro cost2 by'2 best which t25
    rw [tile_solve_h2 nf G0 l' tiles t20 fu cost2 by'2 best which t25]
    simp only [ih, tile_solve_e4]
    rfl
theorem tile_solve_h0 (nf : Nat)  (l' : List (Int × Int × Int × Int × Unit)) (tiles : List (Int × Int × Int × Int × Unit)) (fu : Nat) (cost : List Int) (by' : List Int) (t20 : Int) : iter (fu + 1) (LC.F tab (tile_solve_phi nf) (fun _ F => iter nf F) tile_solve_keep 0 (tile_solve_L0 nf )) (tile_solve_m0 l' tiles cost by' t20) = tile_solve_b0 nf (fun _ _ p2 v0 v1 v2 v3 v4 => iter nf (LC.F tab (tile_solve_phi nf) (fun _ F => iter nf F) tile_solve_keep 2 (tile_solve_L2 nf (iter fu (LC.F tab (tile_solve_phi nf) (fun _ F => iter nf F) tile_solve_keep 0 (tile_solve_L0 nf ))))) (tile_solve_m2 l' tiles p2 v0 v1 v2 v3 v4)) l' tiles  (fun cost by' t20 => iter fu (LC.F tab (tile_solve_phi nf) (fun _ F => iter nf F) tile_solve_keep 0 (tile_solve_L0 nf )) (tile_solve_m0 l' tiles cost by' t20)) cost by' t20 := by kernel_rfl
theorem tile_solve_e0 (nf : Nat)  (l' : List (Int × Int × Int × Int × Unit)) (tiles : List (Int × Int × Int × Int × Unit)) : ∀ (fu : Nat) (cost : List Int) (by' : List Int) (t20 : Int), iter fu (LC.F tab (tile_solve_phi nf) (fun _ F => iter nf F) tile_solve_keep 0 (tile_solve_L0 nf )) (tile_solve_m0 l' tiles cost by' t20) = tile_solve_l0 nf l' tiles  fu cost by' t20 := by
  intro fu
  induction fu with
  | zero => intros; rfl
  | succ fu ih =>
    intro cost by' t20
    rw [tile_solve_h0 nf  l' tiles fu cost by' t20]
    simp only [ih, tile_solve_e2]
    rfl
theorem tile_solve_eq (nf : Nat) (l' : List (Int × Int × Int × Int × Unit)) (tiles : List (Int × Int × Int × Int × Unit)) : runF tab (tile_solve_phi nf) tile_solve_keep nf [PT.val ((Ty.int IntKind.i64).pair ((Ty.int IntKind.i64).pair ((Ty.int IntKind.i64).pair ((Ty.int IntKind.i64).pair Ty.unit)))).sl (Md.bor true false), PT.val ((Ty.int IntKind.i64).pair ((Ty.int IntKind.i64).pair ((Ty.int IntKind.i64).pair ((Ty.int IntKind.i64).pair Ty.unit)))).sl (Md.bor true false)] [((Ty.int IntKind.i64).sl, Md.own false (Md.bor false false)), ((Ty.int IntKind.i64).sl, Md.own false (Md.bor false false))] (resL (none) Try.f87) (codeOf Try.f87) ⟨l', tiles, ()⟩ = tile_solve_f nf l' tiles := by
  have h : runF tab (tile_solve_phi nf) tile_solve_keep nf [PT.val ((Ty.int IntKind.i64).pair ((Ty.int IntKind.i64).pair ((Ty.int IntKind.i64).pair ((Ty.int IntKind.i64).pair Ty.unit)))).sl (Md.bor true false), PT.val ((Ty.int IntKind.i64).pair ((Ty.int IntKind.i64).pair ((Ty.int IntKind.i64).pair ((Ty.int IntKind.i64).pair Ty.unit)))).sl (Md.bor true false)] [((Ty.int IntKind.i64).sl, Md.own false (Md.bor false false)), ((Ty.int IntKind.i64).sl, Md.own false (Md.bor false false))] (resL (none) Try.f87) (codeOf Try.f87) ⟨l', tiles, ()⟩ = tile_solve_p nf (fun p0 p1 v0 v1 v2 => iter nf (LC.F tab (tile_solve_phi nf) (fun _ F => iter nf F) tile_solve_keep 0 (tile_solve_L0 nf)) (tile_solve_m0 p0 p1 v0 v1 v2)) l' tiles := by kernel_rfl
  rw [h]
  simp only [tile_solve_e0]
  rfl
def tile_solve_F (nf : Nat) (x : denPs [.val (.sl (.pair (.int .i64) (.pair (.int .i64) (.pair (.int .i64) (.pair (.int .i64) (.unit)))))) (.bor true false), .val (.sl (.pair (.int .i64) (.pair (.int .i64) (.pair (.int .i64) (.pair (.int .i64) (.unit)))))) (.bor true false)]) : Option (denL [(.sl (.int .i64), .own false (.bor false false)), (.sl (.int .i64), .own false (.bor false false))]) := tile_solve_f nf x.1 x.2.1
def tile_solve_C (nf : Nat) : Contract := ⟨[.val (.sl (.pair (.int .i64) (.pair (.int .i64) (.pair (.int .i64) (.pair (.int .i64) (.unit)))))) (.bor true false), .val (.sl (.pair (.int .i64) (.pair (.int .i64) (.pair (.int .i64) (.pair (.int .i64) (.unit)))))) (.bor true false)], [(.sl (.int .i64), .own false (.bor false false)), (.sl (.int .i64), .own false (.bor false false))], tile_solve_F nf, none⟩
theorem tile_solve_ok : FnOK Try.prog 87 := ⟨Try.f87, codeOf Try.f87, Try.func87, by kernel_rfl, by kernel_rfl⟩
theorem tile_solve_holds (nf : Nat) : Contract.Holds Try.prog 87 (tile_solve_C nf) :=
  fn_holds (Φ := tile_solve_phi nf) (keep := tile_solve_keep) (n := nf) ⟨tabs.1, tabs.2, (ctx_cons tile_below_ok (tile_below_holds nf) ctx_nil), mixed⟩ (fn := Try.f87) ⟨Try.func87, by kernel_rfl, by kernel_rfl, by kernel_rfl⟩ (fun x => tile_solve_eq nf x.1 x.2.1)

/-! codemason tile.Cost -/
def tile_Cost_phi (nf : Nat) : Nat → Option Contract := lookC [(86, tile_wrong_C nf), (87, tile_solve_C nf)]
def tile_Cost_keep : Nat → List Nat := lookK []
def tile_Cost_p (nf : Nat)  (vars : Int) (l' : List (Int × Int × Int × Int × Unit)) (tiles : List (Int × Int × Int × Int × Unit)) : Option (Int × Int × Unit) :=
  Option.bind (tile_wrong_f nf vars l' tiles) fun r =>
  bif r.fst != 0 then
    some ((0, r.fst, ()))
  else
    Option.bind (tile_solve_f nf l' tiles) fun r2 =>
    bif inb (IntKind.i64.wrap ((↑l'.length : Int) - 1)) (List.length r2.fst) then
      bif decide (List.getD r2.fst (IntKind.i64.wrap ((↑l'.length : Int) - 1)).toNat 0 ≥ 0) then
        some ((List.getD r2.fst (IntKind.i64.wrap ((↑l'.length : Int) - 1)).toNat 0, 0, ()))
      else
        some ((0, 5, ()))
    else
      none
def tile_Cost_f (nf : Nat) (vars : Int) (l' : List (Int × Int × Int × Int × Unit)) (tiles : List (Int × Int × Int × Int × Unit)) : Option (Int × Int × Unit) := tile_Cost_p nf  vars l' tiles
theorem tile_Cost_eq (nf : Nat) (vars : Int) (l' : List (Int × Int × Int × Int × Unit)) (tiles : List (Int × Int × Int × Int × Unit)) : runF tab (tile_Cost_phi nf) tile_Cost_keep nf [PT.val (Ty.int IntKind.i64) (Md.bor true false), PT.val ((Ty.int IntKind.i64).pair ((Ty.int IntKind.i64).pair ((Ty.int IntKind.i64).pair ((Ty.int IntKind.i64).pair Ty.unit)))).sl (Md.bor true false), PT.val ((Ty.int IntKind.i64).pair ((Ty.int IntKind.i64).pair ((Ty.int IntKind.i64).pair ((Ty.int IntKind.i64).pair Ty.unit)))).sl (Md.bor true false)] [(Ty.int IntKind.i64, Md.bor false true), (Ty.int IntKind.i64, Md.bor false true)] (resL (none) Try.f59) (codeOf Try.f59) ⟨vars, l', tiles, ()⟩ = tile_Cost_f nf vars l' tiles := by
  have h : runF tab (tile_Cost_phi nf) tile_Cost_keep nf [PT.val (Ty.int IntKind.i64) (Md.bor true false), PT.val ((Ty.int IntKind.i64).pair ((Ty.int IntKind.i64).pair ((Ty.int IntKind.i64).pair ((Ty.int IntKind.i64).pair Ty.unit)))).sl (Md.bor true false), PT.val ((Ty.int IntKind.i64).pair ((Ty.int IntKind.i64).pair ((Ty.int IntKind.i64).pair ((Ty.int IntKind.i64).pair Ty.unit)))).sl (Md.bor true false)] [(Ty.int IntKind.i64, Md.bor false true), (Ty.int IntKind.i64, Md.bor false true)] (resL (none) Try.f59) (codeOf Try.f59) ⟨vars, l', tiles, ()⟩ = tile_Cost_p nf  vars l' tiles := by kernel_rfl
  exact h
def tile_Cost_F (nf : Nat) (x : denPs [.val (.int .i64) (.bor true false), .val (.sl (.pair (.int .i64) (.pair (.int .i64) (.pair (.int .i64) (.pair (.int .i64) (.unit)))))) (.bor true false), .val (.sl (.pair (.int .i64) (.pair (.int .i64) (.pair (.int .i64) (.pair (.int .i64) (.unit)))))) (.bor true false)]) : Option (denL [(.int .i64, .bor false true), (.int .i64, .bor false true)]) := tile_Cost_f nf x.1 x.2.1 x.2.2.1
def tile_Cost_C (nf : Nat) : Contract := ⟨[.val (.int .i64) (.bor true false), .val (.sl (.pair (.int .i64) (.pair (.int .i64) (.pair (.int .i64) (.pair (.int .i64) (.unit)))))) (.bor true false), .val (.sl (.pair (.int .i64) (.pair (.int .i64) (.pair (.int .i64) (.pair (.int .i64) (.unit)))))) (.bor true false)], [(.int .i64, .bor false true), (.int .i64, .bor false true)], tile_Cost_F nf, none⟩
theorem tile_Cost_ok : FnOK Try.prog 59 := ⟨Try.f59, codeOf Try.f59, Try.func59, by kernel_rfl, by kernel_rfl⟩
theorem tile_Cost_holds (nf : Nat) : Contract.Holds Try.prog 59 (tile_Cost_C nf) :=
  fn_holds (Φ := tile_Cost_phi nf) (keep := tile_Cost_keep) (n := nf) ⟨tabs.1, tabs.2, (ctx_cons tile_wrong_ok (tile_wrong_holds nf) (ctx_cons tile_solve_ok (tile_solve_holds nf) ctx_nil)), mixed⟩ (fn := Try.f59) ⟨Try.func59, by kernel_rfl, by kernel_rfl, by kernel_rfl⟩ (fun x => tile_Cost_eq nf x.1 x.2.1 x.2.2.1)

/-! codemason codemasonref.Lies -/
def ref_Lies_tab : Tab := ⟨lookT [(2, .int .i64), (3, .int .i64), (4, .bool), (5, .int .u8), (6, .int .u8), (7, .pair (.int .i64) (.pair (.int .i64) (.pair (.bool) (.pair (.int .u8) (.unit))))), (8, .pair (.int .i64) (.pair (.int .i64) (.pair (.bool) (.pair (.int .u8) (.unit))))), (12, .int .u64), (21, .int .i32), (22, .sl (.pair (.int .i64) (.pair (.int .i64) (.pair (.int .i64) (.pair (.int .i64) (.unit)))))), (23, .int .i64), (26, .int .u32), (29, .sl (.int .i64)), (31, .pair (.int .i64) (.pair (.int .i64) (.pair (.int .i64) (.pair (.int .i64) (.unit))))), (32, .pair (.int .i64) (.pair (.int .i64) (.pair (.int .i64) (.pair (.int .i64) (.unit))))), (33, .int .u64), (44, .sl (.pair (.int .i64) (.pair (.int .i64) (.pair (.int .i64) (.pair (.int .i64) (.pair (.int .i64) (.unit))))))), (55, .sl (.pair (.int .i64) (.pair (.int .i64) (.unit)))), (65, .pair (.int .i64) (.pair (.int .i64) (.unit))), (66, .pair (.int .i64) (.pair (.int .i64) (.unit))), (86, .sl (.pair (.int .i64) (.pair (.int .i64) (.pair (.int .i64) (.pair (.int .i64) (.unit)))))), (94, .pair (.int .i64) (.pair (.int .i64) (.pair (.int .i64) (.pair (.int .i64) (.unit))))), (95, .pair (.int .i64) (.pair (.int .i64) (.pair (.int .i64) (.pair (.int .i64) (.unit))))), (96, .sl (.bool)), (101, .pair (.int .i64) (.pair (.int .i64) (.pair (.int .i64) (.pair (.int .i64) (.pair (.int .i64) (.unit)))))), (102, .pair (.int .i64) (.pair (.int .i64) (.pair (.int .i64) (.pair (.int .i64) (.pair (.int .i64) (.unit)))))), (104, .pair (.sl (.pair (.int .i64) (.pair (.int .i64) (.pair (.int .i64) (.pair (.int .i64) (.unit)))))) (.pair (.sl (.int .i64)) (.pair (.sl (.pair (.int .i64) (.pair (.int .i64) (.pair (.int .i64) (.pair (.int .i64) (.pair (.int .i64) (.unit))))))) (.unit)))), (105, .pair (.sl (.pair (.int .i64) (.pair (.int .i64) (.pair (.int .i64) (.pair (.int .i64) (.unit)))))) (.pair (.sl (.int .i64)) (.pair (.sl (.pair (.int .i64) (.pair (.int .i64) (.pair (.int .i64) (.pair (.int .i64) (.pair (.int .i64) (.unit))))))) (.unit)))), (119, .pair (.sl (.pair (.int .i64) (.pair (.int .i64) (.pair (.int .i64) (.pair (.int .i64) (.pair (.int .i64) (.unit))))))) (.pair (.int .i64) (.pair (.int .i64) (.pair (.int .i64) (.unit))))), (120, .pair (.sl (.pair (.int .i64) (.pair (.int .i64) (.pair (.int .i64) (.pair (.int .i64) (.pair (.int .i64) (.unit))))))) (.pair (.int .i64) (.pair (.int .i64) (.pair (.int .i64) (.unit))))), (121, .sl (.pair (.sl (.pair (.int .i64) (.pair (.int .i64) (.pair (.int .i64) (.pair (.int .i64) (.pair (.int .i64) (.unit))))))) (.pair (.int .i64) (.pair (.int .i64) (.pair (.int .i64) (.unit)))))), (142, .int .u8), (143, .int .u8), (146, .int .i32), (147, .int .i32)], lookM [(2, .bor false true), (3, .bor false true), (4, .bor false true), (5, .bor false true), (6, .bor false true), (7, .bor false true), (8, .bor false true), (12, .bor false true), (21, .bor false true), (22, .own false (.bor false false)), (23, .bor false true), (26, .bor false true), (29, .own false (.bor false false)), (31, .bor false true), (32, .bor false true), (33, .bor false true), (44, .own false (.bor false false)), (55, .own false (.bor false false)), (65, .bor false true), (66, .bor false true), (86, .own false (.bor false false)), (94, .bor false true), (95, .bor false true), (96, .own false (.bor false false)), (101, .bor false true), (102, .bor false true), (104, .bor true false), (105, .bor true false), (119, .bor true false), (120, .bor true false), (121, .own false (.bor false false)), (142, .bor false true), (143, .bor false true), (146, .bor false true), (147, .bor false true)], hasT [138], hasT [9, 10, 11]⟩
theorem ref_Lies_tabs : TabOK Try.prog ref_Lies_tab ∧ EqOK Try.prog ref_Lies_tab := tab_ok (by kernel_rfl) (by kernel_rfl)
def ref_Lies_phi (nf : Nat) : Nat → Option Contract := lookC []
def ref_Lies_keep : Nat → List Nat := lookK [(0, [0, 8, 9, 37, 42, 43, 44, 58, 82])]
def ref_Lies_b0 (nf : Nat) (l' : List (Int × Int × Int × Int × Unit)) (t : Int × Int × Int × Int × Unit) (g0 : List Int → List Int → List Int → Int → Option (List Int × Bool × Unit)) (out : List Int) (sides : List Int) (t42 : List Int) (t44 : Int) : Option (List Int × Bool × Unit) :=
  bif decide (t44 < (↑[t.snd.fst, t.snd.snd.fst].length : Int)) then
    bif inb t44 t42.length then
      bif inb t44 sides.length then
        bif t42.getD t44.toNat 0 == 0 then
          bif bimp false ![sides.getD t44.toNat 0].isEmpty && (out.length + [sides.getD t44.toNat 0].length).ble lim then
            g0 (out ++ [sides.getD t44.toNat 0]) sides t42 (IntKind.i64.wrap (t44 + 1))
          else
            none
        else
          bif inb (sides.getD t44.toNat 0) l'.length then
            bif (l'.getD (Int.toNat (sides.getD t44.toNat 0)) (0, 0, 0, 0, ())).fst != t42.getD t44.toNat 0 then
              some (([], false, ()))
            else
              bif decide (t42.getD t44.toNat 0 > 2) then
                bif inb (sides.getD t44.toNat 0) l'.length then
                  bif inb (sides.getD t44.toNat 0) l'.length then
                    both (both (bif bimp false ![(l'.getD (Int.toNat (sides.getD t44.toNat 0)) (0, 0, 0, 0, ())).snd.fst].isEmpty && (out.length + [(l'.getD (Int.toNat (sides.getD t44.toNat 0)) (0, 0, 0, 0, ())).snd.fst].length).ble lim then
                      bif bimp false ![(l'.getD (Int.toNat (sides.getD t44.toNat 0)) (0, 0, 0, 0, ())).snd.snd.fst].isEmpty && ((out ++ [(l'.getD (Int.toNat (sides.getD t44.toNat 0)) (0, 0, 0, 0, ())).snd.fst]).length + [(l'.getD (Int.toNat (sides.getD t44.toNat 0)) (0, 0, 0, 0, ())).snd.snd.fst].length).ble lim then
                        g0 (out ++ [(l'.getD (Int.toNat (sides.getD t44.toNat 0)) (0, 0, 0, 0, ())).snd.fst] ++ [(l'.getD (Int.toNat (sides.getD t44.toNat 0)) (0, 0, 0, 0, ())).snd.snd.fst]) sides t42 (IntKind.i64.wrap (t44 + 1))
                      else
                        none
                    else
                      none) (bif bimp false ![(l'.getD (Int.toNat (sides.getD t44.toNat 0)) (0, 0, 0, 0, ())).snd.fst].isEmpty && (out.length + [(l'.getD (Int.toNat (sides.getD t44.toNat 0)) (0, 0, 0, 0, ())).snd.fst].length).ble lim then
                      bif bimp false ![(l'.getD (Int.toNat (sides.getD t44.toNat 0)) (0, 0, 0, 0, ())).snd.snd.fst].isEmpty && ((out ++ [(l'.getD (Int.toNat (sides.getD t44.toNat 0)) (0, 0, 0, 0, ())).snd.fst]).length + [(l'.getD (Int.toNat (sides.getD t44.toNat 0)) (0, 0, 0, 0, ())).snd.snd.fst].length).ble lim then
                        g0 (out ++ [(l'.getD (Int.toNat (sides.getD t44.toNat 0)) (0, 0, 0, 0, ())).snd.fst] ++ [(l'.getD (Int.toNat (sides.getD t44.toNat 0)) (0, 0, 0, 0, ())).snd.snd.fst]) sides t42 (IntKind.i64.wrap (t44 + 1))
                      else
                        none
                    else
                      none)) (bif bimp false ![(l'.getD (Int.toNat (sides.getD t44.toNat 0)) (0, 0, 0, 0, ())).snd.fst].isEmpty && (out.length + [(l'.getD (Int.toNat (sides.getD t44.toNat 0)) (0, 0, 0, 0, ())).snd.fst].length).ble lim then
                      bif bimp false ![(l'.getD (Int.toNat (sides.getD t44.toNat 0)) (0, 0, 0, 0, ())).snd.snd.fst].isEmpty && ((out ++ [(l'.getD (Int.toNat (sides.getD t44.toNat 0)) (0, 0, 0, 0, ())).snd.fst]).length + [(l'.getD (Int.toNat (sides.getD t44.toNat 0)) (0, 0, 0, 0, ())).snd.snd.fst].length).ble lim then
                        g0 (out ++ [(l'.getD (Int.toNat (sides.getD t44.toNat 0)) (0, 0, 0, 0, ())).snd.fst] ++ [(l'.getD (Int.toNat (sides.getD t44.toNat 0)) (0, 0, 0, 0, ())).snd.snd.fst]) sides t42 (IntKind.i64.wrap (t44 + 1))
                      else
                        none
                    else
                      none)
                  else
                    none
                else
                  none
              else
                g0 out sides t42 (IntKind.i64.wrap (t44 + 1))
          else
            none
      else
        none
    else
      none
  else
    some ((out, true, ()))
def ref_Lies_p (nf : Nat) (l0 : List (Int × Int × Int × Int × Unit) → Int × Int × Int × Int × Unit → List Int → List Int → List Int → Int → Option (List Int × Bool × Unit)) (l' : List (Int × Int × Int × Int × Unit)) (i : Int) (t : Int × Int × Int × Int × Unit) : Option (List Int × Bool × Unit) :=
  bif inb i l'.length then
    bif (l'.getD i.toNat (0, 0, 0, 0, ())).fst != t.fst then
      some (([], false, ()))
    else
      bif inb i l'.length then
        bif decide ((l'.getD i.toNat (0, 0, 0, 0, ())).fst ≤ 2) then
          some (([], true, ()))
        else
          bif inb i l'.length then
            bif inb i l'.length then
              l0 l' t [] ([(l'.getD i.toNat (0, 0, 0, 0, ())).snd.fst, (l'.getD i.toNat (0, 0, 0, 0, ())).snd.snd.fst]) ([t.snd.fst, t.snd.snd.fst]) 0
            else
              none
          else
            none
      else
        none
  else
    none
def ref_Lies_l0 (nf : Nat) (l' : List (Int × Int × Int × Int × Unit)) (t : Int × Int × Int × Int × Unit) : Nat → List Int → List Int → List Int → Int → Option (List Int × Bool × Unit)
  | 0, _, _, _, _ => none
  | fu + 1, out, sides, t42, t44 => ref_Lies_b0 nf  l' t  (ref_Lies_l0 nf l' t  fu) out sides t42 t44
def ref_Lies_f (nf : Nat) (l' : List (Int × Int × Int × Int × Unit)) (i : Int) (t : Int × Int × Int × Int × Unit) : Option (List Int × Bool × Unit) := ref_Lies_p nf (fun p0 p1 v0 v1 v2 v3 => ref_Lies_l0 nf p0 p1 nf v0 v1 v2 v3) l' i t
noncomputable def ref_Lies_L0 (nf : Nat) : LC (List Int × Bool × Unit) := theL (findL ref_Lies_tab (ref_Lies_phi nf) (fun _ F => iter nf F) ref_Lies_keep 0 0 (codeOf Try.f63) (fin ref_Lies_tab [((Ty.int IntKind.i64).sl, Md.own false (Md.bor false false)), (Ty.bool, Md.bor false true)] (resL (none) Try.f63)) (fun _ _ => none) (fin ref_Lies_tab [((Ty.int IntKind.i64).sl, Md.own false (Md.bor false false)), (Ty.bool, Md.bor false true)] (resL (none) Try.f63)))
def ref_Lies_m0 (l' : List (Int × Int × Int × Int × Unit)) (t : Int × Int × Int × Int × Unit) (out : List Int) (sides : List Int) (t42 : List Int) (t44 : Int) : St := ⟨fresh, [(0, AV.v ((Ty.int IntKind.i64).pair ((Ty.int IntKind.i64).pair ((Ty.int IntKind.i64).pair ((Ty.int IntKind.i64).pair Ty.unit)))).sl (Md.bor true false) l'), (8, AV.ow 500008 (Ty.int IntKind.i64).sl (Md.own false (Md.bor false false)) out), (9, AV.ow 500009 (Ty.int IntKind.i64).sl (Md.own false (Md.bor false false)) sides), (37, AV.dead), (42, AV.ow 500042 (Ty.int IntKind.i64).sl (Md.own false (Md.bor false false)) t42), (43, AV.v (Ty.int IntKind.i64) (Md.bor false true) (↑[t.snd.fst, t.snd.snd.fst].length : Int)), (44, AV.v (Ty.int IntKind.i64) (Md.bor false true) t44), (58, AV.dead), (82, AV.dead)]⟩
theorem ref_Lies_h0 (nf : Nat)  (l' : List (Int × Int × Int × Int × Unit)) (t : Int × Int × Int × Int × Unit) (fu : Nat) (out : List Int) (sides : List Int) (t42 : List Int) (t44 : Int) : iter (fu + 1) (LC.F ref_Lies_tab (ref_Lies_phi nf) (fun _ F => iter nf F) ref_Lies_keep 0 (ref_Lies_L0 nf )) (ref_Lies_m0 l' t out sides t42 t44) = ref_Lies_b0 nf  l' t  (fun out sides t42 t44 => iter fu (LC.F ref_Lies_tab (ref_Lies_phi nf) (fun _ F => iter nf F) ref_Lies_keep 0 (ref_Lies_L0 nf )) (ref_Lies_m0 l' t out sides t42 t44)) out sides t42 t44 := by kernel_rfl
theorem ref_Lies_e0 (nf : Nat)  (l' : List (Int × Int × Int × Int × Unit)) (t : Int × Int × Int × Int × Unit) : ∀ (fu : Nat) (out : List Int) (sides : List Int) (t42 : List Int) (t44 : Int), iter fu (LC.F ref_Lies_tab (ref_Lies_phi nf) (fun _ F => iter nf F) ref_Lies_keep 0 (ref_Lies_L0 nf )) (ref_Lies_m0 l' t out sides t42 t44) = ref_Lies_l0 nf l' t  fu out sides t42 t44 := by
  intro fu
  induction fu with
  | zero => intros; rfl
  | succ fu ih =>
    intro out sides t42 t44
    rw [ref_Lies_h0 nf  l' t fu out sides t42 t44]
    simp only [ih]
    rfl
theorem ref_Lies_eq (nf : Nat) (l' : List (Int × Int × Int × Int × Unit)) (i : Int) (t : Int × Int × Int × Int × Unit) : runF ref_Lies_tab (ref_Lies_phi nf) ref_Lies_keep nf [PT.val ((Ty.int IntKind.i64).pair ((Ty.int IntKind.i64).pair ((Ty.int IntKind.i64).pair ((Ty.int IntKind.i64).pair Ty.unit)))).sl (Md.bor true false), PT.val (Ty.int IntKind.i64) (Md.bor true false), PT.val ((Ty.int IntKind.i64).pair ((Ty.int IntKind.i64).pair ((Ty.int IntKind.i64).pair ((Ty.int IntKind.i64).pair Ty.unit)))) (Md.bor true false)] [((Ty.int IntKind.i64).sl, Md.own false (Md.bor false false)), (Ty.bool, Md.bor false true)] (resL (none) Try.f63) (codeOf Try.f63) ⟨l', i, t, ()⟩ = ref_Lies_f nf l' i t := by
  have h : runF ref_Lies_tab (ref_Lies_phi nf) ref_Lies_keep nf [PT.val ((Ty.int IntKind.i64).pair ((Ty.int IntKind.i64).pair ((Ty.int IntKind.i64).pair ((Ty.int IntKind.i64).pair Ty.unit)))).sl (Md.bor true false), PT.val (Ty.int IntKind.i64) (Md.bor true false), PT.val ((Ty.int IntKind.i64).pair ((Ty.int IntKind.i64).pair ((Ty.int IntKind.i64).pair ((Ty.int IntKind.i64).pair Ty.unit)))) (Md.bor true false)] [((Ty.int IntKind.i64).sl, Md.own false (Md.bor false false)), (Ty.bool, Md.bor false true)] (resL (none) Try.f63) (codeOf Try.f63) ⟨l', i, t, ()⟩ = ref_Lies_p nf (fun p0 p1 v0 v1 v2 v3 => iter nf (LC.F ref_Lies_tab (ref_Lies_phi nf) (fun _ F => iter nf F) ref_Lies_keep 0 (ref_Lies_L0 nf)) (ref_Lies_m0 p0 p1 v0 v1 v2 v3)) l' i t := by kernel_rfl
  rw [h]
  simp only [ref_Lies_e0]
  rfl
def ref_Lies_F (nf : Nat) (x : denPs [.val (.sl (.pair (.int .i64) (.pair (.int .i64) (.pair (.int .i64) (.pair (.int .i64) (.unit)))))) (.bor true false), .val (.int .i64) (.bor true false), .val (.pair (.int .i64) (.pair (.int .i64) (.pair (.int .i64) (.pair (.int .i64) (.unit))))) (.bor true false)]) : Option (denL [(.sl (.int .i64), .own false (.bor false false)), (.bool, .bor false true)]) := ref_Lies_f nf x.1 x.2.1 x.2.2.1
def ref_Lies_C (nf : Nat) : Contract := ⟨[.val (.sl (.pair (.int .i64) (.pair (.int .i64) (.pair (.int .i64) (.pair (.int .i64) (.unit)))))) (.bor true false), .val (.int .i64) (.bor true false), .val (.pair (.int .i64) (.pair (.int .i64) (.pair (.int .i64) (.pair (.int .i64) (.unit))))) (.bor true false)], [(.sl (.int .i64), .own false (.bor false false)), (.bool, .bor false true)], ref_Lies_F nf, none⟩
theorem ref_Lies_ok : FnOK Try.prog 63 := ⟨Try.f63, codeOf Try.f63, Try.func63, by kernel_rfl, by kernel_rfl⟩
theorem ref_Lies_holds (nf : Nat) : Contract.Holds Try.prog 63 (ref_Lies_C nf) :=
  fn_holds (Φ := ref_Lies_phi nf) (keep := ref_Lies_keep) (n := nf) ⟨ref_Lies_tabs.1, ref_Lies_tabs.2, ctx_nil, mixed⟩ (fn := Try.f63) ⟨Try.func63, by kernel_rfl, by kernel_rfl, by kernel_rfl⟩ (fun x => ref_Lies_eq nf x.1 x.2.1 x.2.2.1)

/-! codemason codemasonref.TileCost -/
def ref_TileCost_phi (nf : Nat) (self : denPs [.val (.sl (.pair (.int .i64) (.pair (.int .i64) (.pair (.int .i64) (.pair (.int .i64) (.unit)))))) (.bor true false), .val (.sl (.pair (.int .i64) (.pair (.int .i64) (.pair (.int .i64) (.pair (.int .i64) (.unit)))))) (.bor true false), .val (.int .i64) (.bor true false)] → Option (denL [(.int .i64, .bor false true)])) : Nat → Option Contract := lookC [(61, ⟨[.val (.sl (.pair (.int .i64) (.pair (.int .i64) (.pair (.int .i64) (.pair (.int .i64) (.unit)))))) (.bor true false), .val (.sl (.pair (.int .i64) (.pair (.int .i64) (.pair (.int .i64) (.pair (.int .i64) (.unit)))))) (.bor true false), .val (.int .i64) (.bor true false)], [(.int .i64, .bor false true)], self, none⟩), (63, ref_Lies_C nf)]
def ref_TileCost_keep : Nat → List Nat := lookK [(2, [0, 1, 2, 7, 10, 11, 12, 16, 17, 18, 22, 26, 27, 31, 32, 33]), (0, [0, 1, 2, 7, 16, 17, 18])]
def ref_TileCost_b0 (nf : Nat) (self : denPs [.val (.sl (.pair (.int .i64) (.pair (.int .i64) (.pair (.int .i64) (.pair (.int .i64) (.unit)))))) (.bor true false), .val (.sl (.pair (.int .i64) (.pair (.int .i64) (.pair (.int .i64) (.pair (.int .i64) (.unit)))))) (.bor true false), .val (.int .i64) (.bor true false)] → Option (denL [(.int .i64, .bor false true)])) (l2 : List (Int × Int × Int × Int × Unit) → List (Int × Int × Int × Int × Unit) → Int → Int → Int → List Int × Bool × Unit → List Int → Bool → Int → Int → Option (Int × Unit)) (l' : List (Int × Int × Int × Int × Unit)) (tiles : List (Int × Int × Int × Int × Unit)) (i : Int) (g0 : Int → Int → Option (Int × Unit)) (best : Int) (t18 : Int) : Option (Int × Unit) :=
  bif decide (t18 < (↑tiles.length : Int)) then
    bif inb t18 tiles.length then
      Option.bind (ref_Lies_f nf l' i (tiles.getD t18.toNat (0, 0, 0, 0, ()))) fun r =>
      l2 l' tiles i best t18 r r.fst r.snd.fst ((tiles.getD t18.toNat (0, 0, 0, 0, ())).snd.snd.snd.fst) 0
    else
      none
  else
    some ((best, ()))
def ref_TileCost_b2 (nf : Nat) (self : denPs [.val (.sl (.pair (.int .i64) (.pair (.int .i64) (.pair (.int .i64) (.pair (.int .i64) (.unit)))))) (.bor true false), .val (.sl (.pair (.int .i64) (.pair (.int .i64) (.pair (.int .i64) (.pair (.int .i64) (.unit)))))) (.bor true false), .val (.int .i64) (.bor true false)] → Option (denL [(.int .i64, .bor false true)])) (l' : List (Int × Int × Int × Int × Unit)) (tiles : List (Int × Int × Int × Int × Unit)) (i : Int) (best : Int) (t18 : Int) (r : List Int × Bool × Unit) (g0 : Int → Int → Option (Int × Unit)) (g2 : List Int → Bool → Int → Int → Option (Int × Unit)) (rest : List Int) (ok : Bool) (sum : Int) (t33 : Int) : Option (Int × Unit) :=
  bif decide (t33 < (↑(List.length r.fst) : Int)) then
    bif inb t33 rest.length then
      Option.bind (self (l', tiles, rest.getD t33.toNat 0, ())) fun r2 =>
      bif ok then
        g2 rest (decide (r2.fst ≥ 0)) (IntKind.i64.wrap (sum + r2.fst)) (IntKind.i64.wrap (t33 + 1))
      else
        g2 rest false (IntKind.i64.wrap (sum + r2.fst)) (IntKind.i64.wrap (t33 + 1))
    else
      none
  else
    bif ok then
      bif decide (best < 0) then
        g0 sum (IntKind.i64.wrap (t18 + 1))
      else
        bif decide (sum < best) then
          g0 sum (IntKind.i64.wrap (t18 + 1))
        else
          g0 best (IntKind.i64.wrap (t18 + 1))
    else
      g0 best (IntKind.i64.wrap (t18 + 1))
def ref_TileCost_p (nf : Nat) (self : denPs [.val (.sl (.pair (.int .i64) (.pair (.int .i64) (.pair (.int .i64) (.pair (.int .i64) (.unit)))))) (.bor true false), .val (.sl (.pair (.int .i64) (.pair (.int .i64) (.pair (.int .i64) (.pair (.int .i64) (.unit)))))) (.bor true false), .val (.int .i64) (.bor true false)] → Option (denL [(.int .i64, .bor false true)])) (l0 : List (Int × Int × Int × Int × Unit) → List (Int × Int × Int × Int × Unit) → Int → Int → Int → Option (Int × Unit)) (l' : List (Int × Int × Int × Int × Unit)) (tiles : List (Int × Int × Int × Int × Unit)) (i : Int) : Option (Int × Unit) :=
  l0 l' tiles i (-1) 0
def ref_TileCost_l2 (nf : Nat) (self : denPs [.val (.sl (.pair (.int .i64) (.pair (.int .i64) (.pair (.int .i64) (.pair (.int .i64) (.unit)))))) (.bor true false), .val (.sl (.pair (.int .i64) (.pair (.int .i64) (.pair (.int .i64) (.pair (.int .i64) (.unit)))))) (.bor true false), .val (.int .i64) (.bor true false)] → Option (denL [(.int .i64, .bor false true)])) (l' : List (Int × Int × Int × Int × Unit)) (tiles : List (Int × Int × Int × Int × Unit)) (i : Int) (best : Int) (t18 : Int) (r : List Int × Bool × Unit) (g0 : Int → Int → Option (Int × Unit)) : Nat → List Int → Bool → Int → Int → Option (Int × Unit)
  | 0, _, _, _, _ => none
  | fu + 1, rest, ok, sum, t33 => ref_TileCost_b2 nf self  l' tiles i best t18 r g0 (ref_TileCost_l2 nf self l' tiles i best t18 r g0 fu) rest ok sum t33
def ref_TileCost_l0 (nf : Nat) (self : denPs [.val (.sl (.pair (.int .i64) (.pair (.int .i64) (.pair (.int .i64) (.pair (.int .i64) (.unit)))))) (.bor true false), .val (.sl (.pair (.int .i64) (.pair (.int .i64) (.pair (.int .i64) (.pair (.int .i64) (.unit)))))) (.bor true false), .val (.int .i64) (.bor true false)] → Option (denL [(.int .i64, .bor false true)])) (l' : List (Int × Int × Int × Int × Unit)) (tiles : List (Int × Int × Int × Int × Unit)) (i : Int) : Nat → Int → Int → Option (Int × Unit)
  | 0, _, _ => none
  | fu + 1, best, t18 => ref_TileCost_b0 nf self (fun _ _ _ p3 p4 p5 v0 v1 v2 v3 => ref_TileCost_l2 nf self l' tiles i p3 p4 p5 (fun best t18 => ref_TileCost_l0 nf self l' tiles i  fu best t18) nf v0 v1 v2 v3) l' tiles i  (ref_TileCost_l0 nf self l' tiles i  fu) best t18
def ref_TileCost_f (nf : Nat) (self : denPs [.val (.sl (.pair (.int .i64) (.pair (.int .i64) (.pair (.int .i64) (.pair (.int .i64) (.unit)))))) (.bor true false), .val (.sl (.pair (.int .i64) (.pair (.int .i64) (.pair (.int .i64) (.pair (.int .i64) (.unit)))))) (.bor true false), .val (.int .i64) (.bor true false)] → Option (denL [(.int .i64, .bor false true)])) (l' : List (Int × Int × Int × Int × Unit)) (tiles : List (Int × Int × Int × Int × Unit)) (i : Int) : Option (Int × Unit) := ref_TileCost_p nf self (fun p0 p1 p2 v0 v1 => ref_TileCost_l0 nf self p0 p1 p2 nf v0 v1) l' tiles i
noncomputable def ref_TileCost_L0 (nf : Nat) (self : denPs [.val (.sl (.pair (.int .i64) (.pair (.int .i64) (.pair (.int .i64) (.pair (.int .i64) (.unit)))))) (.bor true false), .val (.sl (.pair (.int .i64) (.pair (.int .i64) (.pair (.int .i64) (.pair (.int .i64) (.unit)))))) (.bor true false), .val (.int .i64) (.bor true false)] → Option (denL [(.int .i64, .bor false true)])) : LC (Int × Unit) := theL (findL tab (ref_TileCost_phi nf self) (fun _ F => iter nf F) ref_TileCost_keep 0 0 (codeOf Try.f61) (fin tab [(Ty.int IntKind.i64, Md.bor false true)] (resL (none) Try.f61)) (fun _ _ => none) (fin tab [(Ty.int IntKind.i64, Md.bor false true)] (resL (none) Try.f61)))
def ref_TileCost_m0 (l' : List (Int × Int × Int × Int × Unit)) (tiles : List (Int × Int × Int × Int × Unit)) (i : Int) (best : Int) (t18 : Int) : St := ⟨fresh, [(0, AV.v ((Ty.int IntKind.i64).pair ((Ty.int IntKind.i64).pair ((Ty.int IntKind.i64).pair ((Ty.int IntKind.i64).pair Ty.unit)))).sl (Md.bor true false) l'), (1, AV.v ((Ty.int IntKind.i64).pair ((Ty.int IntKind.i64).pair ((Ty.int IntKind.i64).pair ((Ty.int IntKind.i64).pair Ty.unit)))).sl (Md.bor true false) tiles), (2, AV.v (Ty.int IntKind.i64) (Md.bor false true) i), (7, AV.v (Ty.int IntKind.i64) (Md.bor false true) best), (16, AV.v ((Ty.int IntKind.i64).pair ((Ty.int IntKind.i64).pair ((Ty.int IntKind.i64).pair ((Ty.int IntKind.i64).pair Ty.unit)))).sl (Md.bor true false) tiles), (17, AV.v (Ty.int IntKind.i64) (Md.bor false true) (↑tiles.length : Int)), (18, AV.v (Ty.int IntKind.i64) (Md.bor false true) t18)]⟩
noncomputable def ref_TileCost_L2 (nf : Nat) (self : denPs [.val (.sl (.pair (.int .i64) (.pair (.int .i64) (.pair (.int .i64) (.pair (.int .i64) (.unit)))))) (.bor true false), .val (.sl (.pair (.int .i64) (.pair (.int .i64) (.pair (.int .i64) (.pair (.int .i64) (.unit)))))) (.bor true false), .val (.int .i64) (.bor true false)] → Option (denL [(.int .i64, .bor false true)])) (G0 : St → Option (Int × Unit)) : LC (Int × Unit) := theL (findL tab (ref_TileCost_phi nf self) (fun _ F => iter nf F) ref_TileCost_keep 2 0 (ref_TileCost_L0 nf self ).c (fun st => norm (ref_TileCost_keep 0) st G0) (ref_TileCost_L0 nf self ).Kx (ref_TileCost_L0 nf self ).Kr)
def ref_TileCost_m2 (l' : List (Int × Int × Int × Int × Unit)) (tiles : List (Int × Int × Int × Int × Unit)) (i : Int) (best : Int) (t18 : Int) (r : List Int × Bool × Unit) (rest : List Int) (ok : Bool) (sum : Int) (t33 : Int) : St := ⟨fresh, [(0, AV.v ((Ty.int IntKind.i64).pair ((Ty.int IntKind.i64).pair ((Ty.int IntKind.i64).pair ((Ty.int IntKind.i64).pair Ty.unit)))).sl (Md.bor true false) l'), (1, AV.v ((Ty.int IntKind.i64).pair ((Ty.int IntKind.i64).pair ((Ty.int IntKind.i64).pair ((Ty.int IntKind.i64).pair Ty.unit)))).sl (Md.bor true false) tiles), (2, AV.v (Ty.int IntKind.i64) (Md.bor false true) i), (7, AV.v (Ty.int IntKind.i64) (Md.bor false true) best), (10, AV.ow 500010 (Ty.int IntKind.i64).sl (Md.own false (Md.bor false false)) rest), (11, AV.v Ty.bool (Md.bor false true) ok), (12, AV.v (Ty.int IntKind.i64) (Md.bor false true) sum), (16, AV.v ((Ty.int IntKind.i64).pair ((Ty.int IntKind.i64).pair ((Ty.int IntKind.i64).pair ((Ty.int IntKind.i64).pair Ty.unit)))).sl (Md.bor true false) tiles), (17, AV.v (Ty.int IntKind.i64) (Md.bor false true) (↑tiles.length : Int)), (18, AV.v (Ty.int IntKind.i64) (Md.bor false true) t18), (22, AV.dead), (26, AV.dead), (27, AV.dead), (31, AV.al 10 500010 []), (32, AV.v (Ty.int IntKind.i64) (Md.bor false true) (↑(List.length r.fst) : Int)), (33, AV.v (Ty.int IntKind.i64) (Md.bor false true) t33)]⟩
theorem ref_TileCost_h2 (nf : Nat) (self : denPs [.val (.sl (.pair (.int .i64) (.pair (.int .i64) (.pair (.int .i64) (.pair (.int .i64) (.unit)))))) (.bor true false), .val (.sl (.pair (.int .i64) (.pair (.int .i64) (.pair (.int .i64) (.pair (.int .i64) (.unit)))))) (.bor true false), .val (.int .i64) (.bor true false)] → Option (denL [(.int .i64, .bor false true)])) (G0 : St → Option (Int × Unit)) (l' : List (Int × Int × Int × Int × Unit)) (tiles : List (Int × Int × Int × Int × Unit)) (i : Int) (best : Int) (t18 : Int) (r : List Int × Bool × Unit) (fu : Nat) (rest : List Int) (ok : Bool) (sum : Int) (t33 : Int) : iter (fu + 1) (LC.F tab (ref_TileCost_phi nf self) (fun _ F => iter nf F) ref_TileCost_keep 2 (ref_TileCost_L2 nf self G0)) (ref_TileCost_m2 l' tiles i best t18 r rest ok sum t33) = ref_TileCost_b2 nf self  l' tiles i best t18 r (fun best t18 => G0 (ref_TileCost_m0 l' tiles i best t18)) (fun rest ok sum t33 => iter fu (LC.F tab (ref_TileCost_phi nf self) (fun _ F => iter nf F) ref_TileCost_keep 2 (ref_TileCost_L2 nf self G0)) (ref_TileCost_m2 l' tiles i best t18 r rest ok sum t33)) rest ok sum t33 := by kernel_rfl
theorem ref_TileCost_e2 (nf : Nat) (self : denPs [.val (.sl (.pair (.int .i64) (.pair (.int .i64) (.pair (.int .i64) (.pair (.int .i64) (.unit)))))) (.bor true false), .val (.sl (.pair (.int .i64) (.pair (.int .i64) (.pair (.int .i64) (.pair (.int .i64) (.unit)))))) (.bor true false), .val (.int .i64) (.bor true false)] → Option (denL [(.int .i64, .bor false true)])) (G0 : St → Option (Int × Unit)) (l' : List (Int × Int × Int × Int × Unit)) (tiles : List (Int × Int × Int × Int × Unit)) (i : Int) (best : Int) (t18 : Int) (r : List Int × Bool × Unit) : ∀ (fu : Nat) (rest : List Int) (ok : Bool) (sum : Int) (t33 : Int), iter fu (LC.F tab (ref_TileCost_phi nf self) (fun _ F => iter nf F) ref_TileCost_keep 2 (ref_TileCost_L2 nf self G0)) (ref_TileCost_m2 l' tiles i best t18 r rest ok sum t33) = ref_TileCost_l2 nf self l' tiles i best t18 r (fun best t18 => G0 (ref_TileCost_m0 l' tiles i best t18)) fu rest ok sum t33 := by
  intro fu
  induction fu with
  | zero => intros; rfl
  | succ fu ih =>
    intro rest ok sum t33
    rw [ref_TileCost_h2 nf self G0 l' tiles i best t18 r fu rest ok sum t33]
    simp only [ih]
    rfl
theorem ref_TileCost_h0 (nf : Nat) (self : denPs [.val (.sl (.pair (.int .i64) (.pair (.int .i64) (.pair (.int .i64) (.pair (.int .i64) (.unit)))))) (.bor true false), .val (.sl (.pair (.int .i64) (.pair (.int .i64) (.pair (.int .i64) (.pair (.int .i64) (.unit)))))) (.bor true false), .val (.int .i64) (.bor true false)] → Option (denL [(.int .i64, .bor false true)]))  (l' : List (Int × Int × Int × Int × Unit)) (tiles : List (Int × Int × Int × Int × Unit)) (i : Int) (fu : Nat) (best : Int) (t18 : Int) : iter (fu + 1) (LC.F tab (ref_TileCost_phi nf self) (fun _ F => iter nf F) ref_TileCost_keep 0 (ref_TileCost_L0 nf self )) (ref_TileCost_m0 l' tiles i best t18) = ref_TileCost_b0 nf self (fun _ _ _ p3 p4 p5 v0 v1 v2 v3 => iter nf (LC.F tab (ref_TileCost_phi nf self) (fun _ F => iter nf F) ref_TileCost_keep 2 (ref_TileCost_L2 nf self (iter fu (LC.F tab (ref_TileCost_phi nf self) (fun _ F => iter nf F) ref_TileCost_keep 0 (ref_TileCost_L0 nf self ))))) (ref_TileCost_m2 l' tiles i p3 p4 p5 v0 v1 v2 v3)) l' tiles i  (fun best t18 => iter fu (LC.F tab (ref_TileCost_phi nf self) (fun _ F => iter nf F) ref_TileCost_keep 0 (ref_TileCost_L0 nf self )) (ref_TileCost_m0 l' tiles i best t18)) best t18 := by kernel_rfl
theorem ref_TileCost_e0 (nf : Nat) (self : denPs [.val (.sl (.pair (.int .i64) (.pair (.int .i64) (.pair (.int .i64) (.pair (.int .i64) (.unit)))))) (.bor true false), .val (.sl (.pair (.int .i64) (.pair (.int .i64) (.pair (.int .i64) (.pair (.int .i64) (.unit)))))) (.bor true false), .val (.int .i64) (.bor true false)] → Option (denL [(.int .i64, .bor false true)]))  (l' : List (Int × Int × Int × Int × Unit)) (tiles : List (Int × Int × Int × Int × Unit)) (i : Int) : ∀ (fu : Nat) (best : Int) (t18 : Int), iter fu (LC.F tab (ref_TileCost_phi nf self) (fun _ F => iter nf F) ref_TileCost_keep 0 (ref_TileCost_L0 nf self )) (ref_TileCost_m0 l' tiles i best t18) = ref_TileCost_l0 nf self l' tiles i  fu best t18 := by
  intro fu
  induction fu with
  | zero => intros; rfl
  | succ fu ih =>
    intro best t18
    rw [ref_TileCost_h0 nf self  l' tiles i fu best t18]
    simp only [ih, ref_TileCost_e2]
    rfl
theorem ref_TileCost_eq (nf : Nat) (self : denPs [.val (.sl (.pair (.int .i64) (.pair (.int .i64) (.pair (.int .i64) (.pair (.int .i64) (.unit)))))) (.bor true false), .val (.sl (.pair (.int .i64) (.pair (.int .i64) (.pair (.int .i64) (.pair (.int .i64) (.unit)))))) (.bor true false), .val (.int .i64) (.bor true false)] → Option (denL [(.int .i64, .bor false true)])) (l' : List (Int × Int × Int × Int × Unit)) (tiles : List (Int × Int × Int × Int × Unit)) (i : Int) : runF tab (ref_TileCost_phi nf self) ref_TileCost_keep nf [PT.val ((Ty.int IntKind.i64).pair ((Ty.int IntKind.i64).pair ((Ty.int IntKind.i64).pair ((Ty.int IntKind.i64).pair Ty.unit)))).sl (Md.bor true false), PT.val ((Ty.int IntKind.i64).pair ((Ty.int IntKind.i64).pair ((Ty.int IntKind.i64).pair ((Ty.int IntKind.i64).pair Ty.unit)))).sl (Md.bor true false), PT.val (Ty.int IntKind.i64) (Md.bor true false)] [(Ty.int IntKind.i64, Md.bor false true)] (resL (none) Try.f61) (codeOf Try.f61) ⟨l', tiles, i, ()⟩ = ref_TileCost_f nf self l' tiles i := by
  have h : runF tab (ref_TileCost_phi nf self) ref_TileCost_keep nf [PT.val ((Ty.int IntKind.i64).pair ((Ty.int IntKind.i64).pair ((Ty.int IntKind.i64).pair ((Ty.int IntKind.i64).pair Ty.unit)))).sl (Md.bor true false), PT.val ((Ty.int IntKind.i64).pair ((Ty.int IntKind.i64).pair ((Ty.int IntKind.i64).pair ((Ty.int IntKind.i64).pair Ty.unit)))).sl (Md.bor true false), PT.val (Ty.int IntKind.i64) (Md.bor true false)] [(Ty.int IntKind.i64, Md.bor false true)] (resL (none) Try.f61) (codeOf Try.f61) ⟨l', tiles, i, ()⟩ = ref_TileCost_p nf self (fun p0 p1 p2 v0 v1 => iter nf (LC.F tab (ref_TileCost_phi nf self) (fun _ F => iter nf F) ref_TileCost_keep 0 (ref_TileCost_L0 nf self)) (ref_TileCost_m0 p0 p1 p2 v0 v1)) l' tiles i := by kernel_rfl
  rw [h]
  simp only [ref_TileCost_e0]
  rfl
def ref_TileCost_F : Nat → denPs [.val (.sl (.pair (.int .i64) (.pair (.int .i64) (.pair (.int .i64) (.pair (.int .i64) (.unit)))))) (.bor true false), .val (.sl (.pair (.int .i64) (.pair (.int .i64) (.pair (.int .i64) (.pair (.int .i64) (.unit)))))) (.bor true false), .val (.int .i64) (.bor true false)] → Option (denL [(.int .i64, .bor false true)])
  | 0, _ => none
  | nf + 1, x => ref_TileCost_f nf (ref_TileCost_F nf) x.1 x.2.1 x.2.2.1
def ref_TileCost_C (nf : Nat) : Contract := ⟨[.val (.sl (.pair (.int .i64) (.pair (.int .i64) (.pair (.int .i64) (.pair (.int .i64) (.unit)))))) (.bor true false), .val (.sl (.pair (.int .i64) (.pair (.int .i64) (.pair (.int .i64) (.pair (.int .i64) (.unit)))))) (.bor true false), .val (.int .i64) (.bor true false)], [(.int .i64, .bor false true)], ref_TileCost_F nf, none⟩
theorem ref_TileCost_ok : FnOK Try.prog 61 := ⟨Try.f61, codeOf Try.f61, Try.func61, by kernel_rfl, by kernel_rfl⟩
theorem ref_TileCost_holds : ∀ (nf : Nat), Contract.Holds Try.prog 61 (ref_TileCost_C nf)
  | 0 => fun _ _ h => by cases h
  | nf + 1 => by
    have ih := ref_TileCost_holds nf
    exact fn_holds (Φ := ref_TileCost_phi nf (ref_TileCost_F nf)) (keep := ref_TileCost_keep) (n := nf) ⟨tabs.1, tabs.2, (ctx_cons ref_TileCost_ok (ih) (ctx_cons ref_Lies_ok (ref_Lies_holds nf) ctx_nil)), mixed⟩ (fn := Try.f61) ⟨Try.func61, by kernel_rfl, by kernel_rfl, by kernel_rfl⟩ (fun x => ref_TileCost_eq nf (ref_TileCost_F nf) x.1 x.2.1 x.2.2.1)

/-! codemason codemasonref.TilesCheck -/
def ref_TilesCheck_phi (nf : Nat) : Nat → Option Contract := lookC []
def ref_TilesCheck_keep : Nat → List Nat := lookK [(0, [0, 8, 9, 10])]
def ref_TilesCheck_b0 (nf : Nat) (tiles : List (Int × Int × Int × Int × Unit)) (g0 : Int → Option (Int × Unit)) (t10 : Int) : Option (Int × Unit) :=
  bif decide (t10 < (↑tiles.length : Int)) then
    bif inb t10 tiles.length then
      bif decide ((tiles.getD t10.toNat (0, 0, 0, 0, ())).fst < 1) then
        some ((6, ()))
      else
        bif decide ((tiles.getD t10.toNat (0, 0, 0, 0, ())).fst > 6) then
          some ((6, ()))
        else
          bif decide ((tiles.getD t10.toNat (0, 0, 0, 0, ())).snd.fst < 0) then
            some ((6, ()))
          else
            bif decide ((tiles.getD t10.toNat (0, 0, 0, 0, ())).snd.fst > 6) then
              some ((6, ()))
            else
              bif decide ((tiles.getD t10.toNat (0, 0, 0, 0, ())).snd.snd.fst < 0) then
                some ((6, ()))
              else
                bif decide ((tiles.getD t10.toNat (0, 0, 0, 0, ())).snd.snd.fst > 6) then
                  some ((6, ()))
                else
                  bif decide ((tiles.getD t10.toNat (0, 0, 0, 0, ())).fst ≤ 2) then
                    bif (tiles.getD t10.toNat (0, 0, 0, 0, ())).snd.fst != 0 then
                      some ((3, ()))
                    else
                      bif (tiles.getD t10.toNat (0, 0, 0, 0, ())).snd.snd.fst != 0 then
                        some ((3, ()))
                      else
                        bif decide ((tiles.getD t10.toNat (0, 0, 0, 0, ())).snd.snd.snd.fst < 0) then
                          some ((4, ()))
                        else
                          bif decide ((tiles.getD t10.toNat (0, 0, 0, 0, ())).snd.snd.snd.fst > 99) then
                            some ((4, ()))
                          else
                            g0 (IntKind.i64.wrap (t10 + 1))
                  else
                    bif decide ((tiles.getD t10.toNat (0, 0, 0, 0, ())).snd.snd.snd.fst < 0) then
                      some ((4, ()))
                    else
                      bif decide ((tiles.getD t10.toNat (0, 0, 0, 0, ())).snd.snd.snd.fst > 99) then
                        some ((4, ()))
                      else
                        g0 (IntKind.i64.wrap (t10 + 1))
    else
      none
  else
    some ((0, ()))
def ref_TilesCheck_p (nf : Nat) (l0 : List (Int × Int × Int × Int × Unit) → Int → Option (Int × Unit)) (tiles : List (Int × Int × Int × Int × Unit)) : Option (Int × Unit) :=
  bif decide ((↑tiles.length : Int) > 10) then
    some ((1, ()))
  else
    l0 tiles 0
def ref_TilesCheck_l0 (nf : Nat) (tiles : List (Int × Int × Int × Int × Unit)) : Nat → Int → Option (Int × Unit)
  | 0, _ => none
  | fu + 1, t10 => ref_TilesCheck_b0 nf  tiles  (ref_TilesCheck_l0 nf tiles  fu) t10
def ref_TilesCheck_f (nf : Nat) (tiles : List (Int × Int × Int × Int × Unit)) : Option (Int × Unit) := ref_TilesCheck_p nf (fun p0 v0 => ref_TilesCheck_l0 nf p0 nf v0) tiles
noncomputable def ref_TilesCheck_L0 (nf : Nat) : LC (Int × Unit) := theL (findL tab (ref_TilesCheck_phi nf) (fun _ F => iter nf F) ref_TilesCheck_keep 0 0 (codeOf Try.f88) (fin tab [(Ty.int IntKind.i64, Md.bor false true)] (resL (none) Try.f88)) (fun _ _ => none) (fin tab [(Ty.int IntKind.i64, Md.bor false true)] (resL (none) Try.f88)))
def ref_TilesCheck_m0 (tiles : List (Int × Int × Int × Int × Unit)) (t10 : Int) : St := ⟨fresh, [(0, AV.v ((Ty.int IntKind.i64).pair ((Ty.int IntKind.i64).pair ((Ty.int IntKind.i64).pair ((Ty.int IntKind.i64).pair Ty.unit)))).sl (Md.bor true false) tiles), (8, AV.v ((Ty.int IntKind.i64).pair ((Ty.int IntKind.i64).pair ((Ty.int IntKind.i64).pair ((Ty.int IntKind.i64).pair Ty.unit)))).sl (Md.bor true false) tiles), (9, AV.v (Ty.int IntKind.i64) (Md.bor false true) (↑tiles.length : Int)), (10, AV.v (Ty.int IntKind.i64) (Md.bor false true) t10)]⟩
theorem ref_TilesCheck_h0 (nf : Nat)  (tiles : List (Int × Int × Int × Int × Unit)) (fu : Nat) (t10 : Int) : iter (fu + 1) (LC.F tab (ref_TilesCheck_phi nf) (fun _ F => iter nf F) ref_TilesCheck_keep 0 (ref_TilesCheck_L0 nf )) (ref_TilesCheck_m0 tiles t10) = ref_TilesCheck_b0 nf  tiles  (fun t10 => iter fu (LC.F tab (ref_TilesCheck_phi nf) (fun _ F => iter nf F) ref_TilesCheck_keep 0 (ref_TilesCheck_L0 nf )) (ref_TilesCheck_m0 tiles t10)) t10 := by kernel_rfl
theorem ref_TilesCheck_e0 (nf : Nat)  (tiles : List (Int × Int × Int × Int × Unit)) : ∀ (fu : Nat) (t10 : Int), iter fu (LC.F tab (ref_TilesCheck_phi nf) (fun _ F => iter nf F) ref_TilesCheck_keep 0 (ref_TilesCheck_L0 nf )) (ref_TilesCheck_m0 tiles t10) = ref_TilesCheck_l0 nf tiles  fu t10 := by
  intro fu
  induction fu with
  | zero => intros; rfl
  | succ fu ih =>
    intro t10
    rw [ref_TilesCheck_h0 nf  tiles fu t10]
    simp only [ih]
    rfl
theorem ref_TilesCheck_eq (nf : Nat) (tiles : List (Int × Int × Int × Int × Unit)) : runF tab (ref_TilesCheck_phi nf) ref_TilesCheck_keep nf [PT.val ((Ty.int IntKind.i64).pair ((Ty.int IntKind.i64).pair ((Ty.int IntKind.i64).pair ((Ty.int IntKind.i64).pair Ty.unit)))).sl (Md.bor true false)] [(Ty.int IntKind.i64, Md.bor false true)] (resL (none) Try.f88) (codeOf Try.f88) ⟨tiles, ()⟩ = ref_TilesCheck_f nf tiles := by
  have h : runF tab (ref_TilesCheck_phi nf) ref_TilesCheck_keep nf [PT.val ((Ty.int IntKind.i64).pair ((Ty.int IntKind.i64).pair ((Ty.int IntKind.i64).pair ((Ty.int IntKind.i64).pair Ty.unit)))).sl (Md.bor true false)] [(Ty.int IntKind.i64, Md.bor false true)] (resL (none) Try.f88) (codeOf Try.f88) ⟨tiles, ()⟩ = ref_TilesCheck_p nf (fun p0 v0 => iter nf (LC.F tab (ref_TilesCheck_phi nf) (fun _ F => iter nf F) ref_TilesCheck_keep 0 (ref_TilesCheck_L0 nf)) (ref_TilesCheck_m0 p0 v0)) tiles := by kernel_rfl
  rw [h]
  simp only [ref_TilesCheck_e0]
  rfl
def ref_TilesCheck_F (nf : Nat) (x : denPs [.val (.sl (.pair (.int .i64) (.pair (.int .i64) (.pair (.int .i64) (.pair (.int .i64) (.unit)))))) (.bor true false)]) : Option (denL [(.int .i64, .bor false true)]) := ref_TilesCheck_f nf x.1
def ref_TilesCheck_C (nf : Nat) : Contract := ⟨[.val (.sl (.pair (.int .i64) (.pair (.int .i64) (.pair (.int .i64) (.pair (.int .i64) (.unit)))))) (.bor true false)], [(.int .i64, .bor false true)], ref_TilesCheck_F nf, none⟩
theorem ref_TilesCheck_ok : FnOK Try.prog 88 := ⟨Try.f88, codeOf Try.f88, Try.func88, by kernel_rfl, by kernel_rfl⟩
theorem ref_TilesCheck_holds (nf : Nat) : Contract.Holds Try.prog 88 (ref_TilesCheck_C nf) :=
  fn_holds (Φ := ref_TilesCheck_phi nf) (keep := ref_TilesCheck_keep) (n := nf) ⟨tabs.1, tabs.2, ctx_nil, mixed⟩ (fn := Try.f88) ⟨Try.func88, by kernel_rfl, by kernel_rfl, by kernel_rfl⟩ (fun x => ref_TilesCheck_eq nf x.1)

/-! codemason codemasonlaw.tileCode -/
def law_tileCode_phi (nf : Nat) : Nat → Option Contract := lookC [(30, law_treeCode_C nf), (61, ref_TileCost_C nf), (88, ref_TilesCheck_C nf)]
def law_tileCode_keep : Nat → List Nat := lookK []
def law_tileCode_p (nf : Nat)  (vars : Int) (l' : List (Int × Int × Int × Int × Unit)) (tiles : List (Int × Int × Int × Int × Unit)) : Option (Int × Unit) :=
  Option.bind (law_treeCode_f nf vars l') fun r =>
  bif r.fst == 0 then
    Option.bind (ref_TilesCheck_f nf tiles) fun r2 =>
    bif r2.fst == 0 then
      Option.bind (ref_TileCost_F nf (l', tiles, IntKind.i64.wrap ((↑l'.length : Int) - 1), ())) fun r3 =>
      bif decide (r3.fst < 0) then
        some ((5, ()))
      else
        some ((r2.fst, ()))
    else
      some ((r2.fst, ()))
  else
    bif r.fst == 0 then
      Option.bind (ref_TileCost_F nf (l', tiles, IntKind.i64.wrap ((↑l'.length : Int) - 1), ())) fun r4 =>
      bif decide (r4.fst < 0) then
        some ((5, ()))
      else
        some ((r.fst, ()))
    else
      some ((r.fst, ()))
def law_tileCode_f (nf : Nat) (vars : Int) (l' : List (Int × Int × Int × Int × Unit)) (tiles : List (Int × Int × Int × Int × Unit)) : Option (Int × Unit) := law_tileCode_p nf  vars l' tiles
theorem law_tileCode_eq (nf : Nat) (vars : Int) (l' : List (Int × Int × Int × Int × Unit)) (tiles : List (Int × Int × Int × Int × Unit)) : runF tab (law_tileCode_phi nf) law_tileCode_keep nf [PT.val (Ty.int IntKind.i64) (Md.bor true false), PT.val ((Ty.int IntKind.i64).pair ((Ty.int IntKind.i64).pair ((Ty.int IntKind.i64).pair ((Ty.int IntKind.i64).pair Ty.unit)))).sl (Md.bor true false), PT.val ((Ty.int IntKind.i64).pair ((Ty.int IntKind.i64).pair ((Ty.int IntKind.i64).pair ((Ty.int IntKind.i64).pair Ty.unit)))).sl (Md.bor true false)] [(Ty.int IntKind.i64, Md.bor false true)] (resL (none) Try.f60) (codeOf Try.f60) ⟨vars, l', tiles, ()⟩ = law_tileCode_f nf vars l' tiles := by
  have h : runF tab (law_tileCode_phi nf) law_tileCode_keep nf [PT.val (Ty.int IntKind.i64) (Md.bor true false), PT.val ((Ty.int IntKind.i64).pair ((Ty.int IntKind.i64).pair ((Ty.int IntKind.i64).pair ((Ty.int IntKind.i64).pair Ty.unit)))).sl (Md.bor true false), PT.val ((Ty.int IntKind.i64).pair ((Ty.int IntKind.i64).pair ((Ty.int IntKind.i64).pair ((Ty.int IntKind.i64).pair Ty.unit)))).sl (Md.bor true false)] [(Ty.int IntKind.i64, Md.bor false true)] (resL (none) Try.f60) (codeOf Try.f60) ⟨vars, l', tiles, ()⟩ = law_tileCode_p nf  vars l' tiles := by kernel_rfl
  exact h
def law_tileCode_F (nf : Nat) (x : denPs [.val (.int .i64) (.bor true false), .val (.sl (.pair (.int .i64) (.pair (.int .i64) (.pair (.int .i64) (.pair (.int .i64) (.unit)))))) (.bor true false), .val (.sl (.pair (.int .i64) (.pair (.int .i64) (.pair (.int .i64) (.pair (.int .i64) (.unit)))))) (.bor true false)]) : Option (denL [(.int .i64, .bor false true)]) := law_tileCode_f nf x.1 x.2.1 x.2.2.1
def law_tileCode_C (nf : Nat) : Contract := ⟨[.val (.int .i64) (.bor true false), .val (.sl (.pair (.int .i64) (.pair (.int .i64) (.pair (.int .i64) (.pair (.int .i64) (.unit)))))) (.bor true false), .val (.sl (.pair (.int .i64) (.pair (.int .i64) (.pair (.int .i64) (.pair (.int .i64) (.unit)))))) (.bor true false)], [(.int .i64, .bor false true)], law_tileCode_F nf, none⟩
theorem law_tileCode_ok : FnOK Try.prog 60 := ⟨Try.f60, codeOf Try.f60, Try.func60, by kernel_rfl, by kernel_rfl⟩
theorem law_tileCode_holds (nf : Nat) : Contract.Holds Try.prog 60 (law_tileCode_C nf) :=
  fn_holds (Φ := law_tileCode_phi nf) (keep := law_tileCode_keep) (n := nf) ⟨tabs.1, tabs.2, (ctx_cons law_treeCode_ok (law_treeCode_holds nf) (ctx_cons ref_TileCost_ok (ref_TileCost_holds nf) (ctx_cons ref_TilesCheck_ok (ref_TilesCheck_holds nf) ctx_nil))), mixed⟩ (fn := Try.f60) ⟨Try.func60, by kernel_rfl, by kernel_rfl, by kernel_rfl⟩ (fun x => law_tileCode_eq nf x.1 x.2.1 x.2.2.1)

/-! codemason codemasonlaw.TileCosts -/
def law_TileCosts_phi (nf : Nat) : Nat → Option Contract := lookC [(59, tile_Cost_C nf), (60, law_tileCode_C nf), (61, ref_TileCost_C nf)]
def law_TileCosts_keep : Nat → List Nat := lookK []
def law_TileCosts_p (nf : Nat)  (vars : Int) (l' : List (Int × Int × Int × Int × Unit)) (tiles : List (Int × Int × Int × Int × Unit)) : Option (Bool × Unit) :=
  Option.bind (tile_Cost_f nf vars l' tiles) fun r =>
  Option.bind (law_tileCode_f nf vars l' tiles) fun r2 =>
  bif r2.fst != 0 then
    bif r.snd.fst == r2.fst then
      some ((r.fst == 0, ()))
    else
      some ((false, ()))
  else
    bif r.snd.fst == 0 then
      Option.bind (ref_TileCost_F nf (l', tiles, IntKind.i64.wrap ((↑l'.length : Int) - 1), ())) fun r3 =>
      some ((r.fst == r3.fst, ()))
    else
      some ((false, ()))
def law_TileCosts_f (nf : Nat) (vars : Int) (l' : List (Int × Int × Int × Int × Unit)) (tiles : List (Int × Int × Int × Int × Unit)) : Option (Bool × Unit) := law_TileCosts_p nf  vars l' tiles
theorem law_TileCosts_eq (nf : Nat) (vars : Int) (l' : List (Int × Int × Int × Int × Unit)) (tiles : List (Int × Int × Int × Int × Unit)) : runF tab (law_TileCosts_phi nf) law_TileCosts_keep nf [PT.val (Ty.int IntKind.i64) (Md.bor true false), PT.val ((Ty.int IntKind.i64).pair ((Ty.int IntKind.i64).pair ((Ty.int IntKind.i64).pair ((Ty.int IntKind.i64).pair Ty.unit)))).sl (Md.bor true false), PT.val ((Ty.int IntKind.i64).pair ((Ty.int IntKind.i64).pair ((Ty.int IntKind.i64).pair ((Ty.int IntKind.i64).pair Ty.unit)))).sl (Md.bor true false)] [(Ty.bool, Md.bor false true)] (resL (none) Try.f18) (codeOf Try.f18) ⟨vars, l', tiles, ()⟩ = law_TileCosts_f nf vars l' tiles := by
  have h : runF tab (law_TileCosts_phi nf) law_TileCosts_keep nf [PT.val (Ty.int IntKind.i64) (Md.bor true false), PT.val ((Ty.int IntKind.i64).pair ((Ty.int IntKind.i64).pair ((Ty.int IntKind.i64).pair ((Ty.int IntKind.i64).pair Ty.unit)))).sl (Md.bor true false), PT.val ((Ty.int IntKind.i64).pair ((Ty.int IntKind.i64).pair ((Ty.int IntKind.i64).pair ((Ty.int IntKind.i64).pair Ty.unit)))).sl (Md.bor true false)] [(Ty.bool, Md.bor false true)] (resL (none) Try.f18) (codeOf Try.f18) ⟨vars, l', tiles, ()⟩ = law_TileCosts_p nf  vars l' tiles := by kernel_rfl
  exact h
def law_TileCosts_F (nf : Nat) (x : denPs [.val (.int .i64) (.bor true false), .val (.sl (.pair (.int .i64) (.pair (.int .i64) (.pair (.int .i64) (.pair (.int .i64) (.unit)))))) (.bor true false), .val (.sl (.pair (.int .i64) (.pair (.int .i64) (.pair (.int .i64) (.pair (.int .i64) (.unit)))))) (.bor true false)]) : Option (denL [(.bool, .bor false true)]) := law_TileCosts_f nf x.1 x.2.1 x.2.2.1
def law_TileCosts_C (nf : Nat) : Contract := ⟨[.val (.int .i64) (.bor true false), .val (.sl (.pair (.int .i64) (.pair (.int .i64) (.pair (.int .i64) (.pair (.int .i64) (.unit)))))) (.bor true false), .val (.sl (.pair (.int .i64) (.pair (.int .i64) (.pair (.int .i64) (.pair (.int .i64) (.unit)))))) (.bor true false)], [(.bool, .bor false true)], law_TileCosts_F nf, none⟩
theorem law_TileCosts_ok : FnOK Try.prog 18 := ⟨Try.f18, codeOf Try.f18, Try.func18, by kernel_rfl, by kernel_rfl⟩
theorem law_TileCosts_holds (nf : Nat) : Contract.Holds Try.prog 18 (law_TileCosts_C nf) :=
  fn_holds (Φ := law_TileCosts_phi nf) (keep := law_TileCosts_keep) (n := nf) ⟨tabs.1, tabs.2, (ctx_cons tile_Cost_ok (tile_Cost_holds nf) (ctx_cons law_tileCode_ok (law_tileCode_holds nf) (ctx_cons ref_TileCost_ok (ref_TileCost_holds nf) ctx_nil))), mixed⟩ (fn := Try.f18) ⟨Try.func18, by kernel_rfl, by kernel_rfl, by kernel_rfl⟩ (fun x => law_TileCosts_eq nf x.1 x.2.1 x.2.2.1)

/-! codemason tile.Cover -/
def tile_Cover_phi (nf : Nat) : Nat → Option Contract := lookC [(86, tile_wrong_C nf), (87, tile_solve_C nf), (89, tile_below_C nf)]
def tile_Cover_keep : Nat → List Nat := lookK [(2, [1, 2, 10, 11, 13, 24, 27, 29, 39, 52, 56, 57, 83]), (0, [1, 2, 10, 11, 13, 24, 27, 29, 39, 41, 42, 52, 56, 57, 83])]
def tile_Cover_b0 (nf : Nat) (l2 : List (Int × Int × Int × Int × Unit) → List (Int × Int × Int × Int × Unit) → List Int → List Int → List Int → Option (List Int × Int × Unit)) (l' : List (Int × Int × Int × Int × Unit)) (tiles : List (Int × Int × Int × Int × Unit)) (g0 : List Int → List Int → Int → Option (List Int × Int × Unit)) (by' : List Int) (out : List Int) (t42 : Int) : Option (List Int × Int × Unit) :=
  bif decide (t42 < (↑(List.replicate (↑l'.length : Int).toNat (0 : Int)).length : Int)) then
    bif inb t42 out.length then
      g0 by' (out.set t42.toNat (-1)) (IntKind.i64.wrap (t42 + 1))
    else
      none
  else
    l2 l' tiles by' out ([IntKind.i64.wrap ((↑l'.length : Int) - 1)])
def tile_Cover_b2 (nf : Nat) (l' : List (Int × Int × Int × Int × Unit)) (tiles : List (Int × Int × Int × Int × Unit)) (g2 : List Int → List Int → List Int → Option (List Int × Int × Unit)) (by'2 : List Int) (out2 : List Int) (queue : List Int) : Option (List Int × Int × Unit) :=
  bif decide ((↑queue.length : Int) > 0) then
    bif inb 0 queue.length then
      bif inb (queue.getD 0 0) by'2.length then
        bif inb (queue.getD 0 0) out2.length then
          bif inb (queue.getD 0 0) by'2.length then
            bif inb (by'2.getD (Int.toNat (queue.getD 0 0)) 0) tiles.length then
              Option.bind (tile_below_f nf l' (queue.getD 0 0) (tiles.getD (Int.toNat (by'2.getD (Int.toNat (queue.getD 0 0)) 0)) (0, 0, 0, 0, ()))) fun r3 =>
              bif bimp false !List.isEmpty r3.fst && (queue.length + List.length r3.fst).ble lim then
                bif decide (0 ≤ 1) && decide (1 ≤ (↑(queue ++ r3.fst).length : Int)) && decide ((↑(queue ++ r3.fst).length : Int) ≤ (↑(queue ++ r3.fst).length : Int)) then
                  g2 by'2 (out2.set (Int.toNat (queue.getD 0 0)) (by'2.getD (Int.toNat (queue.getD 0 0)) 0)) (List.take ((↑(queue ++ r3.fst).length : Int) - 1).toNat (List.drop 1 (queue ++ r3.fst)))
                else
                  none
              else
                none
            else
              none
          else
            none
        else
          none
      else
        none
    else
      none
  else
    some ((out2, 0, ()))
def tile_Cover_p (nf : Nat) (l0 : List (Int × Int × Int × Int × Unit) → List (Int × Int × Int × Int × Unit) → List Int → List Int → Int → Option (List Int × Int × Unit)) (vars : Int) (l' : List (Int × Int × Int × Int × Unit)) (tiles : List (Int × Int × Int × Int × Unit)) : Option (List Int × Int × Unit) :=
  Option.bind (tile_wrong_f nf vars l' tiles) fun r =>
  bif r.fst != 0 then
    some (([], r.fst, ()))
  else
    Option.bind (tile_solve_f nf l' tiles) fun r2 =>
    bif inb (IntKind.i64.wrap ((↑l'.length : Int) - 1)) (List.length r2.fst) then
      bif decide (List.getD r2.fst (IntKind.i64.wrap ((↑l'.length : Int) - 1)).toNat 0 < 0) then
        some (([], 5, ()))
      else
        bif decide (0 ≤ (↑l'.length : Int)) && decide ((↑l'.length : Int) ≤ (↑l'.length : Int)) && decide ((↑l'.length : Int) ≤ (↑lim : Int)) then
          l0 l' tiles r2.snd.fst (List.replicate (↑l'.length : Int).toNat 0) 0
        else
          none
    else
      none
def tile_Cover_l2 (nf : Nat) (l' : List (Int × Int × Int × Int × Unit)) (tiles : List (Int × Int × Int × Int × Unit)) : Nat → List Int → List Int → List Int → Option (List Int × Int × Unit)
  | 0, _, _, _ => none
  | fu + 1, by'2, out2, queue => tile_Cover_b2 nf  l' tiles  (tile_Cover_l2 nf l' tiles  fu) by'2 out2 queue
def tile_Cover_l0 (nf : Nat) (l' : List (Int × Int × Int × Int × Unit)) (tiles : List (Int × Int × Int × Int × Unit)) : Nat → List Int → List Int → Int → Option (List Int × Int × Unit)
  | 0, _, _, _ => none
  | fu + 1, by', out, t42 => tile_Cover_b0 nf (fun _ _ v0 v1 v2 => tile_Cover_l2 nf l' tiles  nf v0 v1 v2) l' tiles  (tile_Cover_l0 nf l' tiles  fu) by' out t42
def tile_Cover_f (nf : Nat) (vars : Int) (l' : List (Int × Int × Int × Int × Unit)) (tiles : List (Int × Int × Int × Int × Unit)) : Option (List Int × Int × Unit) := tile_Cover_p nf (fun p0 p1 v0 v1 v2 => tile_Cover_l0 nf p0 p1 nf v0 v1 v2) vars l' tiles
noncomputable def tile_Cover_L0 (nf : Nat) : LC (List Int × Int × Unit) := theL (findL tab (tile_Cover_phi nf) (fun _ F => iter nf F) tile_Cover_keep 0 0 (codeOf Try.f62) (fin tab [((Ty.int IntKind.i64).sl, Md.own false (Md.bor false false)), (Ty.int IntKind.i64, Md.bor false true)] (resL (none) Try.f62)) (fun _ _ => none) (fin tab [((Ty.int IntKind.i64).sl, Md.own false (Md.bor false false)), (Ty.int IntKind.i64, Md.bor false true)] (resL (none) Try.f62)))
def tile_Cover_m0 (l' : List (Int × Int × Int × Int × Unit)) (tiles : List (Int × Int × Int × Int × Unit)) (by' : List Int) (out : List Int) (t42 : Int) : St := ⟨fresh, [(1, AV.v ((Ty.int IntKind.i64).pair ((Ty.int IntKind.i64).pair ((Ty.int IntKind.i64).pair ((Ty.int IntKind.i64).pair Ty.unit)))).sl (Md.bor true false) l'), (2, AV.v ((Ty.int IntKind.i64).pair ((Ty.int IntKind.i64).pair ((Ty.int IntKind.i64).pair ((Ty.int IntKind.i64).pair Ty.unit)))).sl (Md.bor true false) tiles), (10, AV.ow 500010 (Ty.int IntKind.i64).sl (Md.own false (Md.bor false false)) by'), (11, AV.ow 500011 (Ty.int IntKind.i64).sl (Md.own false (Md.bor false false)) out), (13, AV.dead), (24, AV.dead), (27, AV.dead), (29, AV.dead), (39, AV.dead), (41, AV.v (Ty.int IntKind.i64) (Md.bor false true) (↑(List.replicate (↑l'.length : Int).toNat (0 : Int)).length : Int)), (42, AV.v (Ty.int IntKind.i64) (Md.bor false true) t42), (52, AV.dead), (56, AV.dead), (57, AV.dead), (83, AV.dead)]⟩
noncomputable def tile_Cover_L2 (nf : Nat) : LC (List Int × Int × Unit) := theL (findL tab (tile_Cover_phi nf) (fun _ F => iter nf F) tile_Cover_keep 2 0 (codeOf Try.f62) (fin tab [((Ty.int IntKind.i64).sl, Md.own false (Md.bor false false)), (Ty.int IntKind.i64, Md.bor false true)] (resL (none) Try.f62)) (fun _ _ => none) (fin tab [((Ty.int IntKind.i64).sl, Md.own false (Md.bor false false)), (Ty.int IntKind.i64, Md.bor false true)] (resL (none) Try.f62)))
def tile_Cover_m2 (l' : List (Int × Int × Int × Int × Unit)) (tiles : List (Int × Int × Int × Int × Unit)) (by'2 : List Int) (out2 : List Int) (queue : List Int) : St := ⟨fresh, [(1, AV.v ((Ty.int IntKind.i64).pair ((Ty.int IntKind.i64).pair ((Ty.int IntKind.i64).pair ((Ty.int IntKind.i64).pair Ty.unit)))).sl (Md.bor true false) l'), (2, AV.v ((Ty.int IntKind.i64).pair ((Ty.int IntKind.i64).pair ((Ty.int IntKind.i64).pair ((Ty.int IntKind.i64).pair Ty.unit)))).sl (Md.bor true false) tiles), (10, AV.ow 500010 (Ty.int IntKind.i64).sl (Md.own false (Md.bor false false)) by'2), (11, AV.ow 500011 (Ty.int IntKind.i64).sl (Md.own false (Md.bor false false)) out2), (13, AV.ow 500013 (Ty.int IntKind.i64).sl (Md.own false (Md.bor false false)) queue), (24, AV.dead), (27, AV.dead), (29, AV.dead), (39, AV.dead), (52, AV.dead), (56, AV.dead), (57, AV.dead), (83, AV.dead)]⟩
theorem tile_Cover_h2 (nf : Nat)  (l' : List (Int × Int × Int × Int × Unit)) (tiles : List (Int × Int × Int × Int × Unit)) (fu : Nat) (by'2 : List Int) (out2 : List Int) (queue : List Int) : iter (fu + 1) (LC.F tab (tile_Cover_phi nf) (fun _ F => iter nf F) tile_Cover_keep 2 (tile_Cover_L2 nf )) (tile_Cover_m2 l' tiles by'2 out2 queue) = tile_Cover_b2 nf  l' tiles  (fun by'2 out2 queue => iter fu (LC.F tab (tile_Cover_phi nf) (fun _ F => iter nf F) tile_Cover_keep 2 (tile_Cover_L2 nf )) (tile_Cover_m2 l' tiles by'2 out2 queue)) by'2 out2 queue := by kernel_rfl
theorem tile_Cover_e2 (nf : Nat)  (l' : List (Int × Int × Int × Int × Unit)) (tiles : List (Int × Int × Int × Int × Unit)) : ∀ (fu : Nat) (by'2 : List Int) (out2 : List Int) (queue : List Int), iter fu (LC.F tab (tile_Cover_phi nf) (fun _ F => iter nf F) tile_Cover_keep 2 (tile_Cover_L2 nf )) (tile_Cover_m2 l' tiles by'2 out2 queue) = tile_Cover_l2 nf l' tiles  fu by'2 out2 queue := by
  intro fu
  induction fu with
  | zero => intros; rfl
  | succ fu ih =>
    intro by'2 out2 queue
    rw [tile_Cover_h2 nf  l' tiles fu by'2 out2 queue]
    simp only [ih]
    rfl
theorem tile_Cover_h0 (nf : Nat)  (l' : List (Int × Int × Int × Int × Unit)) (tiles : List (Int × Int × Int × Int × Unit)) (fu : Nat) (by' : List Int) (out : List Int) (t42 : Int) : iter (fu + 1) (LC.F tab (tile_Cover_phi nf) (fun _ F => iter nf F) tile_Cover_keep 0 (tile_Cover_L0 nf )) (tile_Cover_m0 l' tiles by' out t42) = tile_Cover_b0 nf (fun _ _ v0 v1 v2 => iter nf (LC.F tab (tile_Cover_phi nf) (fun _ F => iter nf F) tile_Cover_keep 2 (tile_Cover_L2 nf )) (tile_Cover_m2 l' tiles v0 v1 v2)) l' tiles  (fun by' out t42 => iter fu (LC.F tab (tile_Cover_phi nf) (fun _ F => iter nf F) tile_Cover_keep 0 (tile_Cover_L0 nf )) (tile_Cover_m0 l' tiles by' out t42)) by' out t42 := by kernel_rfl
theorem tile_Cover_e0 (nf : Nat)  (l' : List (Int × Int × Int × Int × Unit)) (tiles : List (Int × Int × Int × Int × Unit)) : ∀ (fu : Nat) (by' : List Int) (out : List Int) (t42 : Int), iter fu (LC.F tab (tile_Cover_phi nf) (fun _ F => iter nf F) tile_Cover_keep 0 (tile_Cover_L0 nf )) (tile_Cover_m0 l' tiles by' out t42) = tile_Cover_l0 nf l' tiles  fu by' out t42 := by
  intro fu
  induction fu with
  | zero => intros; rfl
  | succ fu ih =>
    intro by' out t42
    rw [tile_Cover_h0 nf  l' tiles fu by' out t42]
    simp only [ih, tile_Cover_e2]
    rfl
theorem tile_Cover_eq (nf : Nat) (vars : Int) (l' : List (Int × Int × Int × Int × Unit)) (tiles : List (Int × Int × Int × Int × Unit)) : runF tab (tile_Cover_phi nf) tile_Cover_keep nf [PT.val (Ty.int IntKind.i64) (Md.bor true false), PT.val ((Ty.int IntKind.i64).pair ((Ty.int IntKind.i64).pair ((Ty.int IntKind.i64).pair ((Ty.int IntKind.i64).pair Ty.unit)))).sl (Md.bor true false), PT.val ((Ty.int IntKind.i64).pair ((Ty.int IntKind.i64).pair ((Ty.int IntKind.i64).pair ((Ty.int IntKind.i64).pair Ty.unit)))).sl (Md.bor true false)] [((Ty.int IntKind.i64).sl, Md.own false (Md.bor false false)), (Ty.int IntKind.i64, Md.bor false true)] (resL (none) Try.f62) (codeOf Try.f62) ⟨vars, l', tiles, ()⟩ = tile_Cover_f nf vars l' tiles := by
  have h : runF tab (tile_Cover_phi nf) tile_Cover_keep nf [PT.val (Ty.int IntKind.i64) (Md.bor true false), PT.val ((Ty.int IntKind.i64).pair ((Ty.int IntKind.i64).pair ((Ty.int IntKind.i64).pair ((Ty.int IntKind.i64).pair Ty.unit)))).sl (Md.bor true false), PT.val ((Ty.int IntKind.i64).pair ((Ty.int IntKind.i64).pair ((Ty.int IntKind.i64).pair ((Ty.int IntKind.i64).pair Ty.unit)))).sl (Md.bor true false)] [((Ty.int IntKind.i64).sl, Md.own false (Md.bor false false)), (Ty.int IntKind.i64, Md.bor false true)] (resL (none) Try.f62) (codeOf Try.f62) ⟨vars, l', tiles, ()⟩ = tile_Cover_p nf (fun p0 p1 v0 v1 v2 => iter nf (LC.F tab (tile_Cover_phi nf) (fun _ F => iter nf F) tile_Cover_keep 0 (tile_Cover_L0 nf)) (tile_Cover_m0 p0 p1 v0 v1 v2)) vars l' tiles := by kernel_rfl
  rw [h]
  simp only [tile_Cover_e0]
  rfl
def tile_Cover_F (nf : Nat) (x : denPs [.val (.int .i64) (.bor true false), .val (.sl (.pair (.int .i64) (.pair (.int .i64) (.pair (.int .i64) (.pair (.int .i64) (.unit)))))) (.bor true false), .val (.sl (.pair (.int .i64) (.pair (.int .i64) (.pair (.int .i64) (.pair (.int .i64) (.unit)))))) (.bor true false)]) : Option (denL [(.sl (.int .i64), .own false (.bor false false)), (.int .i64, .bor false true)]) := tile_Cover_f nf x.1 x.2.1 x.2.2.1
def tile_Cover_C (nf : Nat) : Contract := ⟨[.val (.int .i64) (.bor true false), .val (.sl (.pair (.int .i64) (.pair (.int .i64) (.pair (.int .i64) (.pair (.int .i64) (.unit)))))) (.bor true false), .val (.sl (.pair (.int .i64) (.pair (.int .i64) (.pair (.int .i64) (.pair (.int .i64) (.unit)))))) (.bor true false)], [(.sl (.int .i64), .own false (.bor false false)), (.int .i64, .bor false true)], tile_Cover_F nf, none⟩
theorem tile_Cover_ok : FnOK Try.prog 62 := ⟨Try.f62, codeOf Try.f62, Try.func62, by kernel_rfl, by kernel_rfl⟩
theorem tile_Cover_holds (nf : Nat) : Contract.Holds Try.prog 62 (tile_Cover_C nf) :=
  fn_holds (Φ := tile_Cover_phi nf) (keep := tile_Cover_keep) (n := nf) ⟨tabs.1, tabs.2, (ctx_cons tile_wrong_ok (tile_wrong_holds nf) (ctx_cons tile_solve_ok (tile_solve_holds nf) (ctx_cons tile_below_ok (tile_below_holds nf) ctx_nil))), mixed⟩ (fn := Try.f62) ⟨Try.func62, by kernel_rfl, by kernel_rfl, by kernel_rfl⟩ (fun x => tile_Cover_eq nf x.1 x.2.1 x.2.2.1)

/-! codemason codemasonlaw.TileCovers -/
def law_TileCovers_phi (nf : Nat) : Nat → Option Contract := lookC [(50, ref_Inside_C nf), (60, law_tileCode_C nf), (61, ref_TileCost_C nf), (62, tile_Cover_C nf), (63, ref_Lies_C nf)]
def law_TileCovers_keep : Nat → List Nat := lookK [(2, [1, 2, 7, 8, 10, 11, 16, 19, 23, 24, 48, 95, 96, 97, 98]), (0, [1, 2, 7, 8, 10, 11, 12, 19, 23, 24, 48, 95])]
def law_TileCovers_b0 (nf : Nat) (l2 : List (Int × Int × Int × Int × Unit) → List (Int × Int × Int × Int × Unit) → List Int × Int × Unit → Int → List Int → List Int → List Int → Int → Int → Option (Bool × Unit)) (l' : List (Int × Int × Int × Int × Unit)) (tiles : List (Int × Int × Int × Int × Unit)) (r : List Int × Int × Unit) (g0 : List Int → List Int → Int → Int → Option (Bool × Unit)) (c : List Int) (todo : List Int) (sum : Int) (k' : Int) : Option (Bool × Unit) :=
  bif decide (k' < (↑todo.length : Int)) then
    bif inb k' todo.length then
      bif inb (todo.getD k'.toNat 0) c.length then
        Option.bind (ref_Inside_f nf ((↑tiles.length : Int)) ([c.getD (Int.toNat (todo.getD k'.toNat 0)) 0])) fun r3 =>
        bif !r3.fst then
          some ((false, ()))
        else
          bif inb (todo.getD k'.toNat 0) c.length then
            bif inb (c.getD (Int.toNat (todo.getD k'.toNat 0)) 0) tiles.length then
              Option.bind (ref_Lies_f nf l' (todo.getD k'.toNat 0) (tiles.getD (Int.toNat (c.getD (Int.toNat (todo.getD k'.toNat 0)) 0)) (0, 0, 0, 0, ()))) fun r4 =>
              bif !r4.snd.fst then
                some ((false, ()))
              else
                bif inb (todo.getD k'.toNat 0) c.length then
                  bif inb (c.getD (Int.toNat (todo.getD k'.toNat 0)) 0) tiles.length then
                    bif bimp false !List.isEmpty r4.fst && (todo.length + List.length r4.fst).ble lim then
                      g0 c (todo ++ r4.fst) (IntKind.i64.wrap (sum + (tiles.getD (Int.toNat (c.getD (Int.toNat (todo.getD k'.toNat 0)) 0)) (0, 0, 0, 0, ())).snd.snd.snd.fst)) (IntKind.i64.wrap (k' + 1))
                    else
                      none
                  else
                    none
                else
                  none
            else
              none
          else
            none
      else
        none
    else
      none
  else
    l2 l' tiles r sum c c todo 0 0
def law_TileCovers_b2 (nf : Nat) (l' : List (Int × Int × Int × Int × Unit)) (tiles : List (Int × Int × Int × Int × Unit)) (r : List Int × Int × Unit) (sum : Int) (c : List Int) (g2 : List Int → List Int → Int → Int → Option (Bool × Unit)) (c2 : List Int) (todo2 : List Int) (many : Int) (t98 : Int) : Option (Bool × Unit) :=
  bif decide (t98 < (↑c.length : Int)) then
    bif inb t98 c2.length then
      bif c2.getD t98.toNat 0 != (-1) then
        g2 c2 todo2 (IntKind.i64.wrap (many + 1)) (IntKind.i64.wrap (t98 + 1))
      else
        g2 c2 todo2 many (IntKind.i64.wrap (t98 + 1))
    else
      none
  else
    bif r.snd.fst == 0 then
      Option.bind (ref_TileCost_F nf (l', tiles, IntKind.i64.wrap ((↑l'.length : Int) - 1), ())) fun r5 =>
      bif sum == r5.fst then
        some (((↑todo2.length : Int) == many, ()))
      else
        some ((false, ()))
    else
      some ((false, ()))
def law_TileCovers_p (nf : Nat) (l0 : List (Int × Int × Int × Int × Unit) → List (Int × Int × Int × Int × Unit) → List Int × Int × Unit → List Int → List Int → Int → Int → Option (Bool × Unit)) (vars : Int) (l' : List (Int × Int × Int × Int × Unit)) (tiles : List (Int × Int × Int × Int × Unit)) : Option (Bool × Unit) :=
  Option.bind (tile_Cover_f nf vars l' tiles) fun r =>
  Option.bind (law_tileCode_f nf vars l' tiles) fun r2 =>
  bif r2.fst != 0 then
    bif r.snd.fst == r2.fst then
      some (((↑(List.length r.fst) : Int) == 0, ()))
    else
      some ((false, ()))
  else
    bif (↑(List.length r.fst) : Int) != (↑l'.length : Int) then
      some ((false, ()))
    else
      l0 l' tiles r r.fst ([IntKind.i64.wrap ((↑l'.length : Int) - 1)]) 0 0
def law_TileCovers_l2 (nf : Nat) (l' : List (Int × Int × Int × Int × Unit)) (tiles : List (Int × Int × Int × Int × Unit)) (r : List Int × Int × Unit) (sum : Int) (c : List Int) : Nat → List Int → List Int → Int → Int → Option (Bool × Unit)
  | 0, _, _, _, _ => none
  | fu + 1, c2, todo2, many, t98 => law_TileCovers_b2 nf  l' tiles r sum c  (law_TileCovers_l2 nf l' tiles r sum c  fu) c2 todo2 many t98
def law_TileCovers_l0 (nf : Nat) (l' : List (Int × Int × Int × Int × Unit)) (tiles : List (Int × Int × Int × Int × Unit)) (r : List Int × Int × Unit) : Nat → List Int → List Int → Int → Int → Option (Bool × Unit)
  | 0, _, _, _, _ => none
  | fu + 1, c, todo, sum, k' => law_TileCovers_b0 nf (fun _ _ _ p3 p4 v0 v1 v2 v3 => law_TileCovers_l2 nf l' tiles r p3 p4  nf v0 v1 v2 v3) l' tiles r  (law_TileCovers_l0 nf l' tiles r  fu) c todo sum k'
def law_TileCovers_f (nf : Nat) (vars : Int) (l' : List (Int × Int × Int × Int × Unit)) (tiles : List (Int × Int × Int × Int × Unit)) : Option (Bool × Unit) := law_TileCovers_p nf (fun p0 p1 p2 v0 v1 v2 v3 => law_TileCovers_l0 nf p0 p1 p2 nf v0 v1 v2 v3) vars l' tiles
noncomputable def law_TileCovers_L0 (nf : Nat) : LC (Bool × Unit) := theL (findL tab (law_TileCovers_phi nf) (fun _ F => iter nf F) law_TileCovers_keep 0 0 (codeOf Try.f19) (fin tab [(Ty.bool, Md.bor false true)] (resL (none) Try.f19)) (fun _ _ => none) (fin tab [(Ty.bool, Md.bor false true)] (resL (none) Try.f19)))
def law_TileCovers_m0 (l' : List (Int × Int × Int × Int × Unit)) (tiles : List (Int × Int × Int × Int × Unit)) (r : List Int × Int × Unit) (c : List Int) (todo : List Int) (sum : Int) (k' : Int) : St := ⟨fresh, [(1, AV.v ((Ty.int IntKind.i64).pair ((Ty.int IntKind.i64).pair ((Ty.int IntKind.i64).pair ((Ty.int IntKind.i64).pair Ty.unit)))).sl (Md.bor true false) l'), (2, AV.v ((Ty.int IntKind.i64).pair ((Ty.int IntKind.i64).pair ((Ty.int IntKind.i64).pair ((Ty.int IntKind.i64).pair Ty.unit)))).sl (Md.bor true false) tiles), (7, AV.ow 500007 (Ty.int IntKind.i64).sl (Md.own false (Md.bor false false)) c), (8, AV.v (Ty.int IntKind.i64) (Md.bor false true) r.snd.fst), (10, AV.ow 500010 (Ty.int IntKind.i64).sl (Md.own false (Md.bor false false)) todo), (11, AV.v (Ty.int IntKind.i64) (Md.bor false true) sum), (12, AV.v (Ty.int IntKind.i64) (Md.bor false true) k'), (19, AV.dead), (23, AV.dead), (24, AV.dead), (48, AV.dead), (95, AV.dead)]⟩
noncomputable def law_TileCovers_L2 (nf : Nat) : LC (Bool × Unit) := theL (findL tab (law_TileCovers_phi nf) (fun _ F => iter nf F) law_TileCovers_keep 2 0 (codeOf Try.f19) (fin tab [(Ty.bool, Md.bor false true)] (resL (none) Try.f19)) (fun _ _ => none) (fin tab [(Ty.bool, Md.bor false true)] (resL (none) Try.f19)))
def law_TileCovers_m2 (l' : List (Int × Int × Int × Int × Unit)) (tiles : List (Int × Int × Int × Int × Unit)) (r : List Int × Int × Unit) (sum : Int) (c : List Int) (c2 : List Int) (todo2 : List Int) (many : Int) (t98 : Int) : St := ⟨fresh, [(1, AV.v ((Ty.int IntKind.i64).pair ((Ty.int IntKind.i64).pair ((Ty.int IntKind.i64).pair ((Ty.int IntKind.i64).pair Ty.unit)))).sl (Md.bor true false) l'), (2, AV.v ((Ty.int IntKind.i64).pair ((Ty.int IntKind.i64).pair ((Ty.int IntKind.i64).pair ((Ty.int IntKind.i64).pair Ty.unit)))).sl (Md.bor true false) tiles), (7, AV.ow 500007 (Ty.int IntKind.i64).sl (Md.own false (Md.bor false false)) c2), (8, AV.v (Ty.int IntKind.i64) (Md.bor false true) r.snd.fst), (10, AV.ow 500010 (Ty.int IntKind.i64).sl (Md.own false (Md.bor false false)) todo2), (11, AV.v (Ty.int IntKind.i64) (Md.bor false true) sum), (16, AV.v (Ty.int IntKind.i64) (Md.bor false true) many), (19, AV.dead), (23, AV.dead), (24, AV.dead), (48, AV.dead), (95, AV.dead), (96, AV.al 7 500007 []), (97, AV.v (Ty.int IntKind.i64) (Md.bor false true) (↑c.length : Int)), (98, AV.v (Ty.int IntKind.i64) (Md.bor false true) t98)]⟩
theorem law_TileCovers_h2 (nf : Nat)  (l' : List (Int × Int × Int × Int × Unit)) (tiles : List (Int × Int × Int × Int × Unit)) (r : List Int × Int × Unit) (sum : Int) (c : List Int) (fu : Nat) (c2 : List Int) (todo2 : List Int) (many : Int) (t98 : Int) : iter (fu + 1) (LC.F tab (law_TileCovers_phi nf) (fun _ F => iter nf F) law_TileCovers_keep 2 (law_TileCovers_L2 nf )) (law_TileCovers_m2 l' tiles r sum c c2 todo2 many t98) = law_TileCovers_b2 nf  l' tiles r sum c  (fun c2 todo2 many t98 => iter fu (LC.F tab (law_TileCovers_phi nf) (fun _ F => iter nf F) law_TileCovers_keep 2 (law_TileCovers_L2 nf )) (law_TileCovers_m2 l' tiles r sum c c2 todo2 many t98)) c2 todo2 many t98 := by kernel_rfl
theorem law_TileCovers_e2 (nf : Nat)  (l' : List (Int × Int × Int × Int × Unit)) (tiles : List (Int × Int × Int × Int × Unit)) (r : List Int × Int × Unit) (sum : Int) (c : List Int) : ∀ (fu : Nat) (c2 : List Int) (todo2 : List Int) (many : Int) (t98 : Int), iter fu (LC.F tab (law_TileCovers_phi nf) (fun _ F => iter nf F) law_TileCovers_keep 2 (law_TileCovers_L2 nf )) (law_TileCovers_m2 l' tiles r sum c c2 todo2 many t98) = law_TileCovers_l2 nf l' tiles r sum c  fu c2 todo2 many t98 := by
  intro fu
  induction fu with
  | zero => intros; rfl
  | succ fu ih =>
    intro c2 todo2 many t98
    rw [law_TileCovers_h2 nf  l' tiles r sum c fu c2 todo2 many t98]
    simp only [ih]
    rfl
theorem law_TileCovers_h0 (nf : Nat)  (l' : List (Int × Int × Int × Int × Unit)) (tiles : List (Int × Int × Int × Int × Unit)) (r : List Int × Int × Unit) (fu : Nat) (c : List Int) (todo : List Int) (sum : Int) (k' : Int) : iter (fu + 1) (LC.F tab (law_TileCovers_phi nf) (fun _ F => iter nf F) law_TileCovers_keep 0 (law_TileCovers_L0 nf )) (law_TileCovers_m0 l' tiles r c todo sum k') = law_TileCovers_b0 nf (fun _ _ _ p3 p4 v0 v1 v2 v3 => iter nf (LC.F tab (law_TileCovers_phi nf) (fun _ F => iter nf F) law_TileCovers_keep 2 (law_TileCovers_L2 nf )) (law_TileCovers_m2 l' tiles r p3 p4 v0 v1 v2 v3)) l' tiles r  (fun c todo sum k' => iter fu (LC.F tab (law_TileCovers_phi nf) (fun _ F => iter nf F) law_TileCovers_keep 0 (law_TileCovers_L0 nf )) (law_TileCovers_m0 l' tiles r c todo sum k')) c todo sum k' := by kernel_rfl
theorem law_TileCovers_e0 (nf : Nat)  (l' : List (Int × Int × Int × Int × Unit)) (tiles : List (Int × Int × Int × Int × Unit)) (r : List Int × Int × Unit) : ∀ (fu : Nat) (c : List Int) (todo : List Int) (sum : Int) (k' : Int), iter fu (LC.F tab (law_TileCovers_phi nf) (fun _ F => iter nf F) law_TileCovers_keep 0 (law_TileCovers_L0 nf )) (law_TileCovers_m0 l' tiles r c todo sum k') = law_TileCovers_l0 nf l' tiles r  fu c todo sum k' := by
  intro fu
  induction fu with
  | zero => intros; rfl
  | succ fu ih =>
    intro c todo sum k'
    rw [law_TileCovers_h0 nf  l' tiles r fu c todo sum k']
    simp only [ih, law_TileCovers_e2]
    rfl
theorem law_TileCovers_eq (nf : Nat) (vars : Int) (l' : List (Int × Int × Int × Int × Unit)) (tiles : List (Int × Int × Int × Int × Unit)) : runF tab (law_TileCovers_phi nf) law_TileCovers_keep nf [PT.val (Ty.int IntKind.i64) (Md.bor true false), PT.val ((Ty.int IntKind.i64).pair ((Ty.int IntKind.i64).pair ((Ty.int IntKind.i64).pair ((Ty.int IntKind.i64).pair Ty.unit)))).sl (Md.bor true false), PT.val ((Ty.int IntKind.i64).pair ((Ty.int IntKind.i64).pair ((Ty.int IntKind.i64).pair ((Ty.int IntKind.i64).pair Ty.unit)))).sl (Md.bor true false)] [(Ty.bool, Md.bor false true)] (resL (none) Try.f19) (codeOf Try.f19) ⟨vars, l', tiles, ()⟩ = law_TileCovers_f nf vars l' tiles := by
  have h : runF tab (law_TileCovers_phi nf) law_TileCovers_keep nf [PT.val (Ty.int IntKind.i64) (Md.bor true false), PT.val ((Ty.int IntKind.i64).pair ((Ty.int IntKind.i64).pair ((Ty.int IntKind.i64).pair ((Ty.int IntKind.i64).pair Ty.unit)))).sl (Md.bor true false), PT.val ((Ty.int IntKind.i64).pair ((Ty.int IntKind.i64).pair ((Ty.int IntKind.i64).pair ((Ty.int IntKind.i64).pair Ty.unit)))).sl (Md.bor true false)] [(Ty.bool, Md.bor false true)] (resL (none) Try.f19) (codeOf Try.f19) ⟨vars, l', tiles, ()⟩ = law_TileCovers_p nf (fun p0 p1 p2 v0 v1 v2 v3 => iter nf (LC.F tab (law_TileCovers_phi nf) (fun _ F => iter nf F) law_TileCovers_keep 0 (law_TileCovers_L0 nf)) (law_TileCovers_m0 p0 p1 p2 v0 v1 v2 v3)) vars l' tiles := by kernel_rfl
  rw [h]
  simp only [law_TileCovers_e0]
  rfl
def law_TileCovers_F (nf : Nat) (x : denPs [.val (.int .i64) (.bor true false), .val (.sl (.pair (.int .i64) (.pair (.int .i64) (.pair (.int .i64) (.pair (.int .i64) (.unit)))))) (.bor true false), .val (.sl (.pair (.int .i64) (.pair (.int .i64) (.pair (.int .i64) (.pair (.int .i64) (.unit)))))) (.bor true false)]) : Option (denL [(.bool, .bor false true)]) := law_TileCovers_f nf x.1 x.2.1 x.2.2.1
def law_TileCovers_C (nf : Nat) : Contract := ⟨[.val (.int .i64) (.bor true false), .val (.sl (.pair (.int .i64) (.pair (.int .i64) (.pair (.int .i64) (.pair (.int .i64) (.unit)))))) (.bor true false), .val (.sl (.pair (.int .i64) (.pair (.int .i64) (.pair (.int .i64) (.pair (.int .i64) (.unit)))))) (.bor true false)], [(.bool, .bor false true)], law_TileCovers_F nf, none⟩
theorem law_TileCovers_ok : FnOK Try.prog 19 := ⟨Try.f19, codeOf Try.f19, Try.func19, by kernel_rfl, by kernel_rfl⟩
theorem law_TileCovers_holds (nf : Nat) : Contract.Holds Try.prog 19 (law_TileCovers_C nf) :=
  fn_holds (Φ := law_TileCovers_phi nf) (keep := law_TileCovers_keep) (n := nf) ⟨tabs.1, tabs.2, (ctx_cons ref_Inside_ok (ref_Inside_holds nf) (ctx_cons law_tileCode_ok (law_tileCode_holds nf) (ctx_cons ref_TileCost_ok (ref_TileCost_holds nf) (ctx_cons tile_Cover_ok (tile_Cover_holds nf) (ctx_cons ref_Lies_ok (ref_Lies_holds nf) ctx_nil))))), mixed⟩ (fn := Try.f19) ⟨Try.func19, by kernel_rfl, by kernel_rfl, by kernel_rfl⟩ (fun x => law_TileCovers_eq nf x.1 x.2.1 x.2.2.1)
end
end Go.Proofs.Ytpnganfbonlphaa.S
