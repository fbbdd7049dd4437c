/- The functions of the code, as plain functions, and the theorems that say so: made by a program of this proof's own. -/
import Derived.Test.YtgbldmehdipfaaaAbCheck
import Derived.Test.YtgbldmehdipfaaaChecked
namespace Go.Proofs.Ytgbldmehdipfaaa.S
open Go Go.Ab
def tab : Tab := ⟨lookT [(2, .int .i64), (3, .int .i64), (4, .bool), (5, .int .u8), (6, .int .u8), (7, .pair (.int .i64) (.pair (.int .i64) (.pair (.bool) (.pair (.int .u8) (.unit))))), (8, .pair (.int .i64) (.pair (.int .i64) (.pair (.bool) (.pair (.int .u8) (.unit))))), (12, .int .u64), (21, .int .i32), (24, .sl (.pair (.int .i64) (.pair (.int .i64) (.unit)))), (25, .int .u32), (26, .int .i64), (30, .int .u64), (38, .sl (.int .i64)), (44, .sl (.sl (.int .i64))), (49, .pair (.int .i64) (.pair (.int .i64) (.unit))), (51, .sl (.pair (.int .i64) (.pair (.bool) (.pair (.int .i64) (.unit))))), (59, .sl (.pair (.int .i64) (.pair (.int .i64) (.pair (.int .i64) (.unit))))), (64, .sl (.int .u32)), (71, .pair (.int .i64) (.pair (.bool) (.pair (.int .i64) (.unit)))), (72, .pair (.int .i64) (.pair (.bool) (.pair (.int .i64) (.unit)))), (76, .pair (.int .i64) (.pair (.int .i64) (.pair (.int .i64) (.unit)))), (77, .pair (.int .i64) (.pair (.int .i64) (.pair (.int .i64) (.unit)))), (85, .int .u64), (95, .int .u8), (96, .int .u8), (99, .int .i32), (100, .int .i32)], lookM [(2, .bor false true), (3, .bor false true), (4, .bor false true), (5, .bor false true), (6, .bor false true), (7, .bor false true), (8, .bor false true), (12, .bor false true), (21, .bor false true), (24, .own false (.bor false false)), (25, .bor false true), (26, .bor false true), (30, .bor false true), (38, .own false (.bor false false)), (44, .own false (.bor false false)), (49, .bor false true), (51, .own false (.bor false false)), (59, .own false (.bor false false)), (64, .own false (.bor false false)), (71, .bor false true), (72, .bor false true), (76, .bor false true), (77, .bor false true), (85, .bor false true), (95, .bor false true), (96, .bor false true), (99, .bor false true), (100, .bor false true)], hasT [49, 91], hasT [9, 10, 11]⟩
theorem tabs : TabOK Try.prog tab ∧ EqOK Try.prog tab := tab_ok (by kernel_rfl) (by kernel_rfl)
theorem mixed : Try.prog.follows .mixedOrders = true := by kernel_rfl

/-! codemason codemasonref.Ints -/
def ref_Ints_phi (nf : Nat) : Nat → Option Contract := lookC []
def ref_Ints_keep : Nat → List Nat := lookK [(0, [0, 1, 5])]
def ref_Ints_b0 (nf : Nat) (a : List Int) (b : List Int) (g0 : Int → Option (Bool × Unit)) (i : Int) : Option (Bool × Unit) :=
  bif decide (i < (↑a.length : Int)) then
    bif inb i a.length then
      bif inb i b.length then
        bif a.getD i.toNat 0 != b.getD i.toNat 0 then
          some ((false, ()))
        else
          g0 (IntKind.i64.wrap (i + 1))
      else
        none
    else
      none
  else
    some ((true, ()))
def ref_Ints_p (nf : Nat) (l0 : List Int → List Int → Int → Option (Bool × Unit)) (a : List Int) (b : List Int) : Option (Bool × Unit) :=
  bif (↑a.length : Int) != (↑b.length : Int) then
    some ((false, ()))
  else
    l0 a b 0
def ref_Ints_l0 (nf : Nat) (a : List Int) (b : List Int) : Nat → Int → Option (Bool × Unit)
  | 0, _ => none
  | fu + 1, i => ref_Ints_b0 nf  a b  (ref_Ints_l0 nf a b  fu) i
def ref_Ints_f (nf : Nat) (a : List Int) (b : List Int) : Option (Bool × Unit) := ref_Ints_p nf (fun p0 p1 v0 => ref_Ints_l0 nf p0 p1 nf v0) a b
noncomputable def ref_Ints_L0 (nf : Nat) : LC (Bool × Unit) := theL (findL tab (ref_Ints_phi nf) (fun _ F => iter nf F) ref_Ints_keep 0 0 (codeOf Try.f22) (fin tab [(Ty.bool, Md.bor false true)] Try.f22.results.toList) (fun _ _ => none) (fin tab [(Ty.bool, Md.bor false true)] Try.f22.results.toList))
def ref_Ints_m0 (a : List Int) (b : List Int) (i : Int) : St := ⟨fresh, [(0, AV.v (Ty.int IntKind.i64).sl (Md.bor true false) a), (1, AV.v (Ty.int IntKind.i64).sl (Md.bor true false) b), (5, AV.v (Ty.int IntKind.i64) (Md.bor false true) i)]⟩
theorem ref_Ints_h0 (nf : Nat)  (a : List Int) (b : List Int) (fu : Nat) (i : Int) : iter (fu + 1) (LC.F tab (ref_Ints_phi nf) (fun _ F => iter nf F) ref_Ints_keep 0 (ref_Ints_L0 nf )) (ref_Ints_m0 a b i) = ref_Ints_b0 nf  a b  (fun i => iter fu (LC.F tab (ref_Ints_phi nf) (fun _ F => iter nf F) ref_Ints_keep 0 (ref_Ints_L0 nf )) (ref_Ints_m0 a b i)) i := by kernel_rfl
theorem ref_Ints_e0 (nf : Nat)  (a : List Int) (b : List Int) : ∀ (fu : Nat) (i : Int), iter fu (LC.F tab (ref_Ints_phi nf) (fun _ F => iter nf F) ref_Ints_keep 0 (ref_Ints_L0 nf )) (ref_Ints_m0 a b i) = ref_Ints_l0 nf a b  fu i := by
  intro fu
  induction fu with
  | zero => intros; rfl
  | succ fu ih =>
    intro i
    rw [ref_Ints_h0 nf  a b fu i]
    simp only [ih]
    rfl
theorem ref_Ints_eq (nf : Nat) (a : List Int) (b : List Int) : runF tab (ref_Ints_phi nf) ref_Ints_keep nf [PT.val (Ty.int IntKind.i64).sl (Md.bor true false), PT.val (Ty.int IntKind.i64).sl (Md.bor true false)] [(Ty.bool, Md.bor false true)] Try.f22.results.toList (codeOf Try.f22) ⟨a, b, ()⟩ = ref_Ints_f nf a b := by
  have h : runF tab (ref_Ints_phi nf) ref_Ints_keep nf [PT.val (Ty.int IntKind.i64).sl (Md.bor true false), PT.val (Ty.int IntKind.i64).sl (Md.bor true false)] [(Ty.bool, Md.bor false true)] Try.f22.results.toList (codeOf Try.f22) ⟨a, b, ()⟩ = ref_Ints_p nf (fun p0 p1 v0 => iter nf (LC.F tab (ref_Ints_phi nf) (fun _ F => iter nf F) ref_Ints_keep 0 (ref_Ints_L0 nf)) (ref_Ints_m0 p0 p1 v0)) a b := by kernel_rfl
  rw [h]
  simp only [ref_Ints_e0]
  rfl
def ref_Ints_F (nf : Nat) (x : denPs [.val (.sl (.int .i64)) (.bor true false), .val (.sl (.int .i64)) (.bor true false)]) : Option (denL [(.bool, .bor false true)]) := ref_Ints_f nf x.1 x.2.1
def ref_Ints_C (nf : Nat) : Contract := ⟨[.val (.sl (.int .i64)) (.bor true false), .val (.sl (.int .i64)) (.bor true false)], [(.bool, .bor false true)], ref_Ints_F nf⟩
theorem ref_Ints_ok : FnOK Try.prog 22 := ⟨Try.f22, codeOf Try.f22, Try.func22, by kernel_rfl, by kernel_rfl⟩
theorem ref_Ints_holds (nf : Nat) : Contract.Holds Try.prog 22 (ref_Ints_C nf) :=
  fn_holds (Φ := ref_Ints_phi nf) (keep := ref_Ints_keep) (n := nf) ⟨tabs.1, tabs.2, ctx_nil, mixed⟩ (fn := Try.f22) ⟨Try.func22, by kernel_rfl, by kernel_rfl, by kernel_rfl⟩ (fun x => ref_Ints_eq nf x.1 x.2.1)

/-! codemason jump.wrong -/
def jump_wrong_phi (nf : Nat) : Nat → Option Contract := lookC []
def jump_wrong_keep : Nat → List Nat := lookK [(0, [0, 8, 9, 10])]
def jump_wrong_b0 (nf : Nat) (l' : List (Int × Bool × Int × Unit)) (g0 : Int → Option (Int × Unit)) (t10 : Int) : Option (Int × Unit) :=
  bif decide (t10 < (↑l'.length : Int)) then
    bif inb t10 l'.length then
      bif !(l'.getD t10.toNat (0, false, 0, ())).snd.fst then
        bif decide ((l'.getD t10.toNat (0, false, 0, ())).fst < 0) then
          some ((4, ()))
        else
          bif decide ((l'.getD t10.toNat (0, false, 0, ())).fst > 200) then
            some ((4, ()))
          else
            bif (l'.getD t10.toNat (0, false, 0, ())).snd.fst then
              bif decide ((l'.getD t10.toNat (0, false, 0, ())).snd.snd.fst < 0) then
                some ((2, ()))
              else
                bif decide ((l'.getD t10.toNat (0, false, 0, ())).snd.snd.fst > (↑l'.length : Int)) then
                  some ((2, ()))
                else
                  g0 (IntKind.i64.wrap (t10 + 1))
            else
              g0 (IntKind.i64.wrap (t10 + 1))
      else
        bif (l'.getD t10.toNat (0, false, 0, ())).snd.fst then
          bif decide ((l'.getD t10.toNat (0, false, 0, ())).snd.snd.fst < 0) then
            some ((2, ()))
          else
            bif decide ((l'.getD t10.toNat (0, false, 0, ())).snd.snd.fst > (↑l'.length : Int)) then
              some ((2, ()))
            else
              g0 (IntKind.i64.wrap (t10 + 1))
        else
          g0 (IntKind.i64.wrap (t10 + 1))
    else
      none
  else
    some ((0, ()))
def jump_wrong_p (nf : Nat) (l0 : List (Int × Bool × Int × Unit) → Int → Option (Int × Unit)) (l' : List (Int × Bool × Int × Unit)) : Option (Int × Unit) :=
  bif decide ((↑l'.length : Int) > 10) then
    some ((1, ()))
  else
    l0 l' 0
def jump_wrong_l0 (nf : Nat) (l' : List (Int × Bool × Int × Unit)) : Nat → Int → Option (Int × Unit)
  | 0, _ => none
  | fu + 1, t10 => jump_wrong_b0 nf  l'  (jump_wrong_l0 nf l'  fu) t10
def jump_wrong_f (nf : Nat) (l' : List (Int × Bool × Int × Unit)) : Option (Int × Unit) := jump_wrong_p nf (fun p0 v0 => jump_wrong_l0 nf p0 nf v0) l'
noncomputable def jump_wrong_L0 (nf : Nat) : LC (Int × Unit) := theL (findL tab (jump_wrong_phi nf) (fun _ F => iter nf F) jump_wrong_keep 0 0 (codeOf Try.f44) (fin tab [(Ty.int IntKind.i64, Md.bor false true)] Try.f44.results.toList) (fun _ _ => none) (fin tab [(Ty.int IntKind.i64, Md.bor false true)] Try.f44.results.toList))
def jump_wrong_m0 (l' : List (Int × Bool × Int × Unit)) (t10 : Int) : St := ⟨fresh, [(0, AV.v ((Ty.int IntKind.i64).pair (Ty.bool.pair ((Ty.int IntKind.i64).pair Ty.unit))).sl (Md.bor true false) l'), (8, AV.v ((Ty.int IntKind.i64).pair (Ty.bool.pair ((Ty.int IntKind.i64).pair Ty.unit))).sl (Md.bor true false) l'), (9, AV.v (Ty.int IntKind.i64) (Md.bor false true) (↑l'.length : Int)), (10, AV.v (Ty.int IntKind.i64) (Md.bor false true) t10)]⟩
theorem jump_wrong_h0 (nf : Nat)  (l' : List (Int × Bool × Int × Unit)) (fu : Nat) (t10 : Int) : iter (fu + 1) (LC.F tab (jump_wrong_phi nf) (fun _ F => iter nf F) jump_wrong_keep 0 (jump_wrong_L0 nf )) (jump_wrong_m0 l' t10) = jump_wrong_b0 nf  l'  (fun t10 => iter fu (LC.F tab (jump_wrong_phi nf) (fun _ F => iter nf F) jump_wrong_keep 0 (jump_wrong_L0 nf )) (jump_wrong_m0 l' t10)) t10 := by kernel_rfl
theorem jump_wrong_e0 (nf : Nat)  (l' : List (Int × Bool × Int × Unit)) : ∀ (fu : Nat) (t10 : Int), iter fu (LC.F tab (jump_wrong_phi nf) (fun _ F => iter nf F) jump_wrong_keep 0 (jump_wrong_L0 nf )) (jump_wrong_m0 l' t10) = jump_wrong_l0 nf l'  fu t10 := by
  intro fu
  induction fu with
  | zero => intros; rfl
  | succ fu ih =>
    intro t10
    rw [jump_wrong_h0 nf  l' fu t10]
    simp only [ih]
    rfl
theorem jump_wrong_eq (nf : Nat) (l' : List (Int × Bool × Int × Unit)) : runF tab (jump_wrong_phi nf) jump_wrong_keep nf [PT.val ((Ty.int IntKind.i64).pair (Ty.bool.pair ((Ty.int IntKind.i64).pair Ty.unit))).sl (Md.bor true false)] [(Ty.int IntKind.i64, Md.bor false true)] Try.f44.results.toList (codeOf Try.f44) ⟨l', ()⟩ = jump_wrong_f nf l' := by
  have h : runF tab (jump_wrong_phi nf) jump_wrong_keep nf [PT.val ((Ty.int IntKind.i64).pair (Ty.bool.pair ((Ty.int IntKind.i64).pair Ty.unit))).sl (Md.bor true false)] [(Ty.int IntKind.i64, Md.bor false true)] Try.f44.results.toList (codeOf Try.f44) ⟨l', ()⟩ = jump_wrong_p nf (fun p0 v0 => iter nf (LC.F tab (jump_wrong_phi nf) (fun _ F => iter nf F) jump_wrong_keep 0 (jump_wrong_L0 nf)) (jump_wrong_m0 p0 v0)) l' := by kernel_rfl
  rw [h]
  simp only [jump_wrong_e0]
  rfl
def jump_wrong_F (nf : Nat) (x : denPs [.val (.sl (.pair (.int .i64) (.pair (.bool) (.pair (.int .i64) (.unit))))) (.bor true false)]) : Option (denL [(.int .i64, .bor false true)]) := jump_wrong_f nf x.1
def jump_wrong_C (nf : Nat) : Contract := ⟨[.val (.sl (.pair (.int .i64) (.pair (.bool) (.pair (.int .i64) (.unit))))) (.bor true false)], [(.int .i64, .bor false true)], jump_wrong_F nf⟩
theorem jump_wrong_ok : FnOK Try.prog 44 := ⟨Try.f44, codeOf Try.f44, Try.func44, by kernel_rfl, by kernel_rfl⟩
theorem jump_wrong_holds (nf : Nat) : Contract.Holds Try.prog 44 (jump_wrong_C nf) :=
  fn_holds (Φ := jump_wrong_phi nf) (keep := jump_wrong_keep) (n := nf) ⟨tabs.1, tabs.2, ctx_nil, mixed⟩ (fn := Try.f44) ⟨Try.func44, by kernel_rfl, by kernel_rfl, by kernel_rfl⟩ (fun x => jump_wrong_eq nf x.1)

/-! codemason jump.begins -/
def jump_begins_phi (nf : Nat) : Nat → Option Contract := lookC []
def jump_begins_keep : Nat → List Nat := lookK [(0, [0, 3, 6, 7, 8, 9, 22])]
def jump_begins_b0 (nf : Nat) (size' : List Int) (g0 : List Int → Int → Option (List Int × Unit)) (at' : List Int) (t9 : Int) : Option (List Int × Unit) :=
  bif decide (t9 < (↑size'.length : Int)) then
    bif inb t9 size'.length then
      bif inb t9 at'.length then
        bif bimp false ![IntKind.i64.wrap (at'.getD t9.toNat 0 + size'.getD t9.toNat 0)].isEmpty && (at'.length + [IntKind.i64.wrap (at'.getD t9.toNat 0 + size'.getD t9.toNat 0)].length).ble lim then
          g0 (at' ++ [IntKind.i64.wrap (at'.getD t9.toNat 0 + size'.getD t9.toNat 0)]) (IntKind.i64.wrap (t9 + 1))
        else
          none
      else
        none
    else
      none
  else
    some ((at', ()))
def jump_begins_p (nf : Nat) (l0 : List Int → List Int → Int → Option (List Int × Unit)) (size' : List Int) : Option (List Int × Unit) :=
  l0 size' [0] 0
def jump_begins_l0 (nf : Nat) (size' : List Int) : Nat → List Int → Int → Option (List Int × Unit)
  | 0, _, _ => none
  | fu + 1, at', t9 => jump_begins_b0 nf  size'  (jump_begins_l0 nf size'  fu) at' t9
def jump_begins_f (nf : Nat) (size' : List Int) : Option (List Int × Unit) := jump_begins_p nf (fun p0 v0 v1 => jump_begins_l0 nf p0 nf v0 v1) size'
noncomputable def jump_begins_L0 (nf : Nat) : LC (List Int × Unit) := theL (findL tab (jump_begins_phi nf) (fun _ F => iter nf F) jump_begins_keep 0 0 (codeOf Try.f45) (fin tab [((Ty.int IntKind.i64).sl, Md.own false (Md.bor false false))] Try.f45.results.toList) (fun _ _ => none) (fin tab [((Ty.int IntKind.i64).sl, Md.own false (Md.bor false false))] Try.f45.results.toList))
def jump_begins_m0 (size' : List Int) (at' : List Int) (t9 : Int) : St := ⟨fresh, [(0, AV.v (Ty.int IntKind.i64).sl (Md.bor true false) size'), (3, AV.ow 500003 (Ty.int IntKind.i64).sl (Md.own false (Md.bor false false)) at'), (6, AV.dead), (7, AV.v (Ty.int IntKind.i64).sl (Md.bor true false) size'), (8, AV.v (Ty.int IntKind.i64) (Md.bor false true) (↑size'.length : Int)), (9, AV.v (Ty.int IntKind.i64) (Md.bor false true) t9), (22, AV.dead)]⟩
theorem jump_begins_h0 (nf : Nat)  (size' : List Int) (fu : Nat) (at' : List Int) (t9 : Int) : iter (fu + 1) (LC.F tab (jump_begins_phi nf) (fun _ F => iter nf F) jump_begins_keep 0 (jump_begins_L0 nf )) (jump_begins_m0 size' at' t9) = jump_begins_b0 nf  size'  (fun at' t9 => iter fu (LC.F tab (jump_begins_phi nf) (fun _ F => iter nf F) jump_begins_keep 0 (jump_begins_L0 nf )) (jump_begins_m0 size' at' t9)) at' t9 := by kernel_rfl
theorem jump_begins_e0 (nf : Nat)  (size' : List Int) : ∀ (fu : Nat) (at' : List Int) (t9 : Int), iter fu (LC.F tab (jump_begins_phi nf) (fun _ F => iter nf F) jump_begins_keep 0 (jump_begins_L0 nf )) (jump_begins_m0 size' at' t9) = jump_begins_l0 nf size'  fu at' t9 := by
  intro fu
  induction fu with
  | zero => intros; rfl
  | succ fu ih =>
    intro at' t9
    rw [jump_begins_h0 nf  size' fu at' t9]
    simp only [ih]
    rfl
theorem jump_begins_eq (nf : Nat) (size' : List Int) : runF tab (jump_begins_phi nf) jump_begins_keep nf [PT.val (Ty.int IntKind.i64).sl (Md.bor true false)] [((Ty.int IntKind.i64).sl, Md.own false (Md.bor false false))] Try.f45.results.toList (codeOf Try.f45) ⟨size', ()⟩ = jump_begins_f nf size' := by
  have h : runF tab (jump_begins_phi nf) jump_begins_keep nf [PT.val (Ty.int IntKind.i64).sl (Md.bor true false)] [((Ty.int IntKind.i64).sl, Md.own false (Md.bor false false))] Try.f45.results.toList (codeOf Try.f45) ⟨size', ()⟩ = jump_begins_p nf (fun p0 v0 v1 => iter nf (LC.F tab (jump_begins_phi nf) (fun _ F => iter nf F) jump_begins_keep 0 (jump_begins_L0 nf)) (jump_begins_m0 p0 v0 v1)) size' := by kernel_rfl
  rw [h]
  simp only [jump_begins_e0]
  rfl
def jump_begins_F (nf : Nat) (x : denPs [.val (.sl (.int .i64)) (.bor true false)]) : Option (denL [(.sl (.int .i64), .own false (.bor false false))]) := jump_begins_f nf x.1
def jump_begins_C (nf : Nat) : Contract := ⟨[.val (.sl (.int .i64)) (.bor true false)], [(.sl (.int .i64), .own false (.bor false false))], jump_begins_F nf⟩
theorem jump_begins_ok : FnOK Try.prog 45 := ⟨Try.f45, codeOf Try.f45, Try.func45, by kernel_rfl, by kernel_rfl⟩
theorem jump_begins_holds (nf : Nat) : Contract.Holds Try.prog 45 (jump_begins_C nf) :=
  fn_holds (Φ := jump_begins_phi nf) (keep := jump_begins_keep) (n := nf) ⟨tabs.1, tabs.2, ctx_nil, mixed⟩ (fn := Try.f45) ⟨Try.func45, by kernel_rfl, by kernel_rfl, by kernel_rfl⟩ (fun x => jump_begins_eq nf x.1)

/-! codemason jump.Lay -/
def jump_Lay_phi (nf : Nat) : Nat → Option Contract := lookC [(44, jump_wrong_C nf), (45, jump_begins_C nf)]
def jump_Lay_keep : Nat → List Nat := lookK [(4, [0, 6, 10, 11, 33, 37, 38, 39, 40]), (2, [0, 6, 10, 33]), (0, [0, 6, 20, 21, 22, 33])]
def jump_Lay_b0 (nf : Nat) (l2 : List (Int × Bool × Int × Unit) → List Int → Bool → Option (List Int × List Int × Int × Unit)) (l' : List (Int × Bool × Int × Unit)) (g0 : List Int → Int → Option (List Int × List Int × Int × Unit)) (size' : List Int) (t22 : Int) : Option (List Int × List Int × Int × Unit) :=
  bif decide (t22 < (↑l'.length : Int)) then
    bif inb t22 l'.length then
      bif (l'.getD t22.toNat (0, false, 0, ())).snd.fst then
        bif bimp false ![2].isEmpty && (size'.length + [2].length).ble lim then
          g0 (size' ++ [2]) (IntKind.i64.wrap (t22 + 1))
        else
          none
      else
        bif bimp false ![(l'.getD t22.toNat (0, false, 0, ())).fst].isEmpty && (size'.length + [(l'.getD t22.toNat (0, false, 0, ())).fst].length).ble lim then
          g0 (size' ++ [(l'.getD t22.toNat (0, false, 0, ())).fst]) (IntKind.i64.wrap (t22 + 1))
        else
          none
    else
      none
  else
    l2 l' size' true
def jump_Lay_b2 (nf : Nat) (l4 : List (Int × Bool × Int × Unit) → List Int → Bool → List Int → Int → Option (List Int × List Int × Int × Unit)) (l' : List (Int × Bool × Int × Unit)) (g2 : List Int → Bool → Option (List Int × List Int × Int × Unit)) (size'2 : List Int) (more : Bool) : Option (List Int × List Int × Int × Unit) :=
  bif more then
    Option.bind (jump_begins_f nf size'2) fun r2 =>
    l4 l' size'2 false r2.fst 0
  else
    Option.bind (jump_begins_f nf size'2) fun r3 =>
    some ((r3.fst, size'2, 0, ()))
def jump_Lay_b4 (nf : Nat) (l' : List (Int × Bool × Int × Unit)) (g2 : List Int → Bool → Option (List Int × List Int × Int × Unit)) (g4 : List Int → Bool → List Int → Int → Option (List Int × List Int × Int × Unit)) (size'3 : List Int) (more2 : Bool) (at' : List Int) (t40 : Int) : Option (List Int × List Int × Int × Unit) :=
  bif decide (t40 < (↑l'.length : Int)) then
    bif inb t40 l'.length then
      bif !(l'.getD t40.toNat (0, false, 0, ())).snd.fst then
        g4 size'3 more2 at' (IntKind.i64.wrap (t40 + 1))
      else
        bif inb t40 size'3.length then
          bif size'3.getD t40.toNat 0 == 4 then
            g4 size'3 more2 at' (IntKind.i64.wrap (t40 + 1))
          else
            bif inb (l'.getD t40.toNat (0, false, 0, ())).snd.snd.fst at'.length then
              bif inb (IntKind.i64.wrap (t40 + 1)) at'.length then
                bif decide (IntKind.i64.wrap (at'.getD (Int.toNat (l'.getD t40.toNat (0, false, 0, ())).snd.snd.fst) 0 - at'.getD (IntKind.i64.wrap (t40 + 1)).toNat 0) > 50) then
                  bif inb t40 size'3.length then
                    g4 (size'3.set t40.toNat 4) true at' (IntKind.i64.wrap (t40 + 1))
                  else
                    none
                else
                  bif decide (IntKind.i64.wrap (at'.getD (Int.toNat (l'.getD t40.toNat (0, false, 0, ())).snd.snd.fst) 0 - at'.getD (IntKind.i64.wrap (t40 + 1)).toNat 0) < (-50)) then
                    bif inb t40 size'3.length then
                      g4 (size'3.set t40.toNat 4) true at' (IntKind.i64.wrap (t40 + 1))
                    else
                      none
                  else
                    g4 size'3 more2 at' (IntKind.i64.wrap (t40 + 1))
              else
                none
            else
              none
        else
          none
    else
      none
  else
    g2 size'3 more2
def jump_Lay_p (nf : Nat) (l0 : List (Int × Bool × Int × Unit) → List Int → Int → Option (List Int × List Int × Int × Unit)) (l' : List (Int × Bool × Int × Unit)) : Option (List Int × List Int × Int × Unit) :=
  Option.bind (jump_wrong_f nf l') fun r =>
  bif r.fst != 0 then
    some (([], [], r.fst, ()))
  else
    l0 l' [] 0
def jump_Lay_l4 (nf : Nat) (l' : List (Int × Bool × Int × Unit)) (g2 : List Int → Bool → Option (List Int × List Int × Int × Unit)) : Nat → List Int → Bool → List Int → Int → Option (List Int × List Int × Int × Unit)
  | 0, _, _, _, _ => none
  | fu + 1, size'3, more2, at', t40 => jump_Lay_b4 nf  l' g2 (jump_Lay_l4 nf l' g2 fu) size'3 more2 at' t40
def jump_Lay_l2 (nf : Nat) (l' : List (Int × Bool × Int × Unit)) : Nat → List Int → Bool → Option (List Int × List Int × Int × Unit)
  | 0, _, _ => none
  | fu + 1, size'2, more => jump_Lay_b2 nf (fun _ v0 v1 v2 v3 => jump_Lay_l4 nf l' (fun size'2 more => jump_Lay_l2 nf l'  fu size'2 more) nf v0 v1 v2 v3) l'  (jump_Lay_l2 nf l'  fu) size'2 more
def jump_Lay_l0 (nf : Nat) (l' : List (Int × Bool × Int × Unit)) : Nat → List Int → Int → Option (List Int × List Int × Int × Unit)
  | 0, _, _ => none
  | fu + 1, size', t22 => jump_Lay_b0 nf (fun _ v0 v1 => jump_Lay_l2 nf l'  nf v0 v1) l'  (jump_Lay_l0 nf l'  fu) size' t22
def jump_Lay_f (nf : Nat) (l' : List (Int × Bool × Int × Unit)) : Option (List Int × List Int × Int × Unit) := jump_Lay_p nf (fun p0 v0 v1 => jump_Lay_l0 nf p0 nf v0 v1) l'
noncomputable def jump_Lay_L0 (nf : Nat) : LC (List Int × List Int × Int × Unit) := theL (findL tab (jump_Lay_phi nf) (fun _ F => iter nf F) jump_Lay_keep 0 0 (codeOf Try.f30) (fin tab [((Ty.int IntKind.i64).sl, Md.own false (Md.bor false false)), ((Ty.int IntKind.i64).sl, Md.own false (Md.bor false false)), (Ty.int IntKind.i64, Md.bor false true)] Try.f30.results.toList) (fun _ _ => none) (fin tab [((Ty.int IntKind.i64).sl, Md.own false (Md.bor false false)), ((Ty.int IntKind.i64).sl, Md.own false (Md.bor false false)), (Ty.int IntKind.i64, Md.bor false true)] Try.f30.results.toList))
def jump_Lay_m0 (l' : List (Int × Bool × Int × Unit)) (size' : List Int) (t22 : Int) : St := ⟨fresh, [(0, AV.v ((Ty.int IntKind.i64).pair (Ty.bool.pair ((Ty.int IntKind.i64).pair Ty.unit))).sl (Md.bor true false) l'), (6, AV.ow 500006 (Ty.int IntKind.i64).sl (Md.own false (Md.bor false false)) size'), (20, AV.v ((Ty.int IntKind.i64).pair (Ty.bool.pair ((Ty.int IntKind.i64).pair Ty.unit))).sl (Md.bor true false) l'), (21, AV.v (Ty.int IntKind.i64) (Md.bor false true) (↑l'.length : Int)), (22, AV.v (Ty.int IntKind.i64) (Md.bor false true) t22), (33, AV.dead)]⟩
noncomputable def jump_Lay_L2 (nf : Nat) : LC (List Int × List Int × Int × Unit) := theL (findL tab (jump_Lay_phi nf) (fun _ F => iter nf F) jump_Lay_keep 2 0 (codeOf Try.f30) (fin tab [((Ty.int IntKind.i64).sl, Md.own false (Md.bor false false)), ((Ty.int IntKind.i64).sl, Md.own false (Md.bor false false)), (Ty.int IntKind.i64, Md.bor false true)] Try.f30.results.toList) (fun _ _ => none) (fin tab [((Ty.int IntKind.i64).sl, Md.own false (Md.bor false false)), ((Ty.int IntKind.i64).sl, Md.own false (Md.bor false false)), (Ty.int IntKind.i64, Md.bor false true)] Try.f30.results.toList))
def jump_Lay_m2 (l' : List (Int × Bool × Int × Unit)) (size'2 : List Int) (more : Bool) : St := ⟨fresh, [(0, AV.v ((Ty.int IntKind.i64).pair (Ty.bool.pair ((Ty.int IntKind.i64).pair Ty.unit))).sl (Md.bor true false) l'), (6, AV.ow 500006 (Ty.int IntKind.i64).sl (Md.own false (Md.bor false false)) size'2), (10, AV.v Ty.bool (Md.bor false true) more), (33, AV.dead)]⟩
noncomputable def jump_Lay_L4 (nf : Nat) (G2 : St → Option (List Int × List Int × Int × Unit)) : LC (List Int × List Int × Int × Unit) := theL (findL tab (jump_Lay_phi nf) (fun _ F => iter nf F) jump_Lay_keep 4 2 (jump_Lay_L2 nf ).c (fun st => norm (jump_Lay_keep 2) st G2) (jump_Lay_L2 nf ).Kx (jump_Lay_L2 nf ).Kr)
def jump_Lay_m4 (l' : List (Int × Bool × Int × Unit)) (size'3 : List Int) (more2 : Bool) (at' : List Int) (t40 : Int) : St := ⟨fresh, [(0, AV.v ((Ty.int IntKind.i64).pair (Ty.bool.pair ((Ty.int IntKind.i64).pair Ty.unit))).sl (Md.bor true false) l'), (6, AV.ow 500006 (Ty.int IntKind.i64).sl (Md.own false (Md.bor false false)) size'3), (10, AV.v Ty.bool (Md.bor false true) more2), (11, AV.ow 500011 (Ty.int IntKind.i64).sl (Md.own false (Md.bor false false)) at'), (33, AV.dead), (37, AV.dead), (38, AV.v ((Ty.int IntKind.i64).pair (Ty.bool.pair ((Ty.int IntKind.i64).pair Ty.unit))).sl (Md.bor true false) l'), (39, AV.v (Ty.int IntKind.i64) (Md.bor false true) (↑l'.length : Int)), (40, AV.v (Ty.int IntKind.i64) (Md.bor false true) t40)]⟩
theorem jump_Lay_h4 (nf : Nat) (G2 : St → Option (List Int × List Int × Int × Unit)) (l' : List (Int × Bool × Int × Unit)) (fu : Nat) (size'3 : List Int) (more2 : Bool) (at' : List Int) (t40 : Int) : iter (fu + 1) (LC.F tab (jump_Lay_phi nf) (fun _ F => iter nf F) jump_Lay_keep 4 (jump_Lay_L4 nf G2)) (jump_Lay_m4 l' size'3 more2 at' t40) = jump_Lay_b4 nf  l' (fun size'2 more => G2 (jump_Lay_m2 l' size'2 more)) (fun size'3 more2 at' t40 => iter fu (LC.F tab (jump_Lay_phi nf) (fun _ F => iter nf F) jump_Lay_keep 4 (jump_Lay_L4 nf G2)) (jump_Lay_m4 l' size'3 more2 at' t40)) size'3 more2 at' t40 := by kernel_rfl
theorem jump_Lay_e4 (nf : Nat) (G2 : St → Option (List Int × List Int × Int × Unit)) (l' : List (Int × Bool × Int × Unit)) : ∀ (fu : Nat) (size'3 : List Int) (more2 : Bool) (at' : List Int) (t40 : Int), iter fu (LC.F tab (jump_Lay_phi nf) (fun _ F => iter nf F) jump_Lay_keep 4 (jump_Lay_L4 nf G2)) (jump_Lay_m4 l' size'3 more2 at' t40) = jump_Lay_l4 nf l' (fun size'2 more => G2 (jump_Lay_m2 l' size'2 more)) fu size'3 more2 at' t40 := by
  intro fu
  induction fu with
  | zero => intros; rfl
  | succ fu ih =>
    intro size'3 more2 at' t40
    rw [jump_Lay_h4 nf G2 l' fu size'3 more2 at' t40]
    simp only [ih]
    rfl
theorem jump_Lay_h2 (nf : Nat)  (l' : List (Int × Bool × Int × Unit)) (fu : Nat) (size'2 : List Int) (more : Bool) : iter (fu + 1) (LC.F tab (jump_Lay_phi nf) (fun _ F => iter nf F) jump_Lay_keep 2 (jump_Lay_L2 nf )) (jump_Lay_m2 l' size'2 more) = jump_Lay_b2 nf (fun _ v0 v1 v2 v3 => iter nf (LC.F tab (jump_Lay_phi nf) (fun _ F => iter nf F) jump_Lay_keep 4 (jump_Lay_L4 nf (iter fu (LC.F tab (jump_Lay_phi nf) (fun _ F => iter nf F) jump_Lay_keep 2 (jump_Lay_L2 nf ))))) (jump_Lay_m4 l' v0 v1 v2 v3)) l'  (fun size'2 more => iter fu (LC.F tab (jump_Lay_phi nf) (fun _ F => iter nf F) jump_Lay_keep 2 (jump_Lay_L2 nf )) (jump_Lay_m2 l' size'2 more)) size'2 more := by kernel_rfl
theorem jump_Lay_e2 (nf : Nat)  (l' : List (Int × Bool × Int × Unit)) : ∀ (fu : Nat) (size'2 : List Int) (more : Bool), iter fu (LC.F tab (jump_Lay_phi nf) (fun _ F => iter nf F) jump_Lay_keep 2 (jump_Lay_L2 nf )) (jump_Lay_m2 l' size'2 more) = jump_Lay_l2 nf l'  fu size'2 more := by
  intro fu
  induction fu with
  | zero => intros; rfl
  | succ fu ih =>
    intro size'2 more
    rw [jump_Lay_h2 nf  l' fu size'2 more]
    simp only [ih, jump_Lay_e4]
    rfl
theorem jump_Lay_h0 (nf : Nat)  (l' : List (Int × Bool × Int × Unit)) (fu : Nat) (size' : List Int) (t22 : Int) : iter (fu + 1) (LC.F tab (jump_Lay_phi nf) (fun _ F => iter nf F) jump_Lay_keep 0 (jump_Lay_L0 nf )) (jump_Lay_m0 l' size' t22) = jump_Lay_b0 nf (fun _ v0 v1 => iter nf (LC.F tab (jump_Lay_phi nf) (fun _ F => iter nf F) jump_Lay_keep 2 (jump_Lay_L2 nf )) (jump_Lay_m2 l' v0 v1)) l'  (fun size' t22 => iter fu (LC.F tab (jump_Lay_phi nf) (fun _ F => iter nf F) jump_Lay_keep 0 (jump_Lay_L0 nf )) (jump_Lay_m0 l' size' t22)) size' t22 := by kernel_rfl
theorem jump_Lay_e0 (nf : Nat)  (l' : List (Int × Bool × Int × Unit)) : ∀ (fu : Nat) (size' : List Int) (t22 : Int), iter fu (LC.F tab (jump_Lay_phi nf) (fun _ F => iter nf F) jump_Lay_keep 0 (jump_Lay_L0 nf )) (jump_Lay_m0 l' size' t22) = jump_Lay_l0 nf l'  fu size' t22 := by
  intro fu
  induction fu with
  | zero => intros; rfl
  | succ fu ih =>
    intro size' t22
    rw [jump_Lay_h0 nf  l' fu size' t22]
    simp only [ih, jump_Lay_e2]
    rfl
theorem jump_Lay_eq (nf : Nat) (l' : List (Int × Bool × Int × Unit)) : runF tab (jump_Lay_phi nf) jump_Lay_keep nf [PT.val ((Ty.int IntKind.i64).pair (Ty.bool.pair ((Ty.int IntKind.i64).pair Ty.unit))).sl (Md.bor true false)] [((Ty.int IntKind.i64).sl, Md.own false (Md.bor false false)), ((Ty.int IntKind.i64).sl, Md.own false (Md.bor false false)), (Ty.int IntKind.i64, Md.bor false true)] Try.f30.results.toList (codeOf Try.f30) ⟨l', ()⟩ = jump_Lay_f nf l' := by
  have h : runF tab (jump_Lay_phi nf) jump_Lay_keep nf [PT.val ((Ty.int IntKind.i64).pair (Ty.bool.pair ((Ty.int IntKind.i64).pair Ty.unit))).sl (Md.bor true false)] [((Ty.int IntKind.i64).sl, Md.own false (Md.bor false false)), ((Ty.int IntKind.i64).sl, Md.own false (Md.bor false false)), (Ty.int IntKind.i64, Md.bor false true)] Try.f30.results.toList (codeOf Try.f30) ⟨l', ()⟩ = jump_Lay_p nf (fun p0 v0 v1 => iter nf (LC.F tab (jump_Lay_phi nf) (fun _ F => iter nf F) jump_Lay_keep 0 (jump_Lay_L0 nf)) (jump_Lay_m0 p0 v0 v1)) l' := by kernel_rfl
  rw [h]
  simp only [jump_Lay_e0]
  rfl
def jump_Lay_F (nf : Nat) (x : denPs [.val (.sl (.pair (.int .i64) (.pair (.bool) (.pair (.int .i64) (.unit))))) (.bor true false)]) : Option (denL [(.sl (.int .i64), .own false (.bor false false)), (.sl (.int .i64), .own false (.bor false false)), (.int .i64, .bor false true)]) := jump_Lay_f nf x.1
def jump_Lay_C (nf : Nat) : Contract := ⟨[.val (.sl (.pair (.int .i64) (.pair (.bool) (.pair (.int .i64) (.unit))))) (.bor true false)], [(.sl (.int .i64), .own false (.bor false false)), (.sl (.int .i64), .own false (.bor false false)), (.int .i64, .bor false true)], jump_Lay_F nf⟩
theorem jump_Lay_ok : FnOK Try.prog 30 := ⟨Try.f30, codeOf Try.f30, Try.func30, by kernel_rfl, by kernel_rfl⟩
theorem jump_Lay_holds (nf : Nat) : Contract.Holds Try.prog 30 (jump_Lay_C nf) :=
  fn_holds (Φ := jump_Lay_phi nf) (keep := jump_Lay_keep) (n := nf) ⟨tabs.1, tabs.2, (ctx_cons jump_wrong_ok (jump_wrong_holds nf) (ctx_cons jump_begins_ok (jump_begins_holds nf) ctx_nil)), mixed⟩ (fn := Try.f30) ⟨Try.func30, by kernel_rfl, by kernel_rfl, by kernel_rfl⟩ (fun x => jump_Lay_eq nf x.1)

/-! codemason codemasonref.Inside -/
def ref_Inside_phi (nf : Nat) : Nat → Option Contract := lookC []
def ref_Inside_keep : Nat → List Nat := lookK [(0, [0, 1, 7, 8, 9])]
def ref_Inside_b0 (nf : Nat) (n' : Int) (l' : List Int) (g0 : Int → Option (Bool × Unit)) (t9 : Int) : Option (Bool × Unit) :=
  bif decide (t9 < (↑l'.length : Int)) then
    bif inb t9 l'.length then
      bif decide (l'.getD t9.toNat 0 < 0) then
        some ((false, ()))
      else
        bif decide (l'.getD t9.toNat 0 ≥ n') then
          some ((false, ()))
        else
          g0 (IntKind.i64.wrap (t9 + 1))
    else
      none
  else
    some ((true, ()))
def ref_Inside_p (nf : Nat) (l0 : Int → List Int → Int → Option (Bool × Unit)) (n' : Int) (l' : List Int) : Option (Bool × Unit) :=
  l0 n' l' 0
def ref_Inside_l0 (nf : Nat) (n' : Int) (l' : List Int) : Nat → Int → Option (Bool × Unit)
  | 0, _ => none
  | fu + 1, t9 => ref_Inside_b0 nf  n' l'  (ref_Inside_l0 nf n' l'  fu) t9
def ref_Inside_f (nf : Nat) (n' : Int) (l' : List Int) : Option (Bool × Unit) := ref_Inside_p nf (fun p0 p1 v0 => ref_Inside_l0 nf p0 p1 nf v0) n' l'
noncomputable def ref_Inside_L0 (nf : Nat) : LC (Bool × Unit) := theL (findL tab (ref_Inside_phi nf) (fun _ F => iter nf F) ref_Inside_keep 0 0 (codeOf Try.f39) (fin tab [(Ty.bool, Md.bor false true)] Try.f39.results.toList) (fun _ _ => none) (fin tab [(Ty.bool, Md.bor false true)] Try.f39.results.toList))
def ref_Inside_m0 (n' : Int) (l' : List Int) (t9 : Int) : St := ⟨fresh, [(0, AV.v (Ty.int IntKind.i64) (Md.bor false true) n'), (1, AV.v (Ty.int IntKind.i64).sl (Md.bor true false) l'), (7, AV.v (Ty.int IntKind.i64).sl (Md.bor true false) l'), (8, AV.v (Ty.int IntKind.i64) (Md.bor false true) (↑l'.length : Int)), (9, AV.v (Ty.int IntKind.i64) (Md.bor false true) t9)]⟩
theorem ref_Inside_h0 (nf : Nat)  (n' : Int) (l' : List Int) (fu : Nat) (t9 : Int) : iter (fu + 1) (LC.F tab (ref_Inside_phi nf) (fun _ F => iter nf F) ref_Inside_keep 0 (ref_Inside_L0 nf )) (ref_Inside_m0 n' l' t9) = ref_Inside_b0 nf  n' l'  (fun t9 => iter fu (LC.F tab (ref_Inside_phi nf) (fun _ F => iter nf F) ref_Inside_keep 0 (ref_Inside_L0 nf )) (ref_Inside_m0 n' l' t9)) t9 := by kernel_rfl
theorem ref_Inside_e0 (nf : Nat)  (n' : Int) (l' : List Int) : ∀ (fu : Nat) (t9 : Int), iter fu (LC.F tab (ref_Inside_phi nf) (fun _ F => iter nf F) ref_Inside_keep 0 (ref_Inside_L0 nf )) (ref_Inside_m0 n' l' t9) = ref_Inside_l0 nf n' l'  fu t9 := by
  intro fu
  induction fu with
  | zero => intros; rfl
  | succ fu ih =>
    intro t9
    rw [ref_Inside_h0 nf  n' l' fu t9]
    simp only [ih]
    rfl
theorem ref_Inside_eq (nf : Nat) (n' : Int) (l' : List Int) : runF tab (ref_Inside_phi nf) ref_Inside_keep nf [PT.val (Ty.int IntKind.i64) (Md.bor true false), PT.val (Ty.int IntKind.i64).sl (Md.bor true false)] [(Ty.bool, Md.bor false true)] Try.f39.results.toList (codeOf Try.f39) ⟨n', l', ()⟩ = ref_Inside_f nf n' l' := by
  have h : runF tab (ref_Inside_phi nf) ref_Inside_keep nf [PT.val (Ty.int IntKind.i64) (Md.bor true false), PT.val (Ty.int IntKind.i64).sl (Md.bor true false)] [(Ty.bool, Md.bor false true)] Try.f39.results.toList (codeOf Try.f39) ⟨n', l', ()⟩ = ref_Inside_p nf (fun p0 p1 v0 => iter nf (LC.F tab (ref_Inside_phi nf) (fun _ F => iter nf F) ref_Inside_keep 0 (ref_Inside_L0 nf)) (ref_Inside_m0 p0 p1 v0)) n' l' := by kernel_rfl
  rw [h]
  simp only [ref_Inside_e0]
  rfl
def ref_Inside_F (nf : Nat) (x : denPs [.val (.int .i64) (.bor true false), .val (.sl (.int .i64)) (.bor true false)]) : Option (denL [(.bool, .bor false true)]) := ref_Inside_f nf x.1 x.2.1
def ref_Inside_C (nf : Nat) : Contract := ⟨[.val (.int .i64) (.bor true false), .val (.sl (.int .i64)) (.bor true false)], [(.bool, .bor false true)], ref_Inside_F nf⟩
theorem ref_Inside_ok : FnOK Try.prog 39 := ⟨Try.f39, codeOf Try.f39, Try.func39, by kernel_rfl, by kernel_rfl⟩
theorem ref_Inside_holds (nf : Nat) : Contract.Holds Try.prog 39 (ref_Inside_C nf) :=
  fn_holds (Φ := ref_Inside_phi nf) (keep := ref_Inside_keep) (n := nf) ⟨tabs.1, tabs.2, ctx_nil, mixed⟩ (fn := Try.f39) ⟨Try.func39, by kernel_rfl, by kernel_rfl, by kernel_rfl⟩ (fun x => ref_Inside_eq nf x.1 x.2.1)

/-! codemason codemasonref.PieceCheck -/
def ref_PieceCheck_phi (nf : Nat) : Nat → Option Contract := lookC [(39, ref_Inside_C nf)]
def ref_PieceCheck_keep : Nat → List Nat := lookK [(0, [0, 8, 9, 10])]
def ref_PieceCheck_b0 (nf : Nat) (l' : List (Int × Bool × Int × Unit)) (g0 : Int → Option (Int × Unit)) (t10 : Int) : Option (Int × Unit) :=
  bif decide (t10 < (↑l'.length : Int)) then
    bif inb t10 l'.length then
      bif !(l'.getD t10.toNat (0, false, 0, ())).snd.fst then
        bif decide ((l'.getD t10.toNat (0, false, 0, ())).fst < 0) then
          some ((4, ()))
        else
          bif decide ((l'.getD t10.toNat (0, false, 0, ())).fst > 200) then
            some ((4, ()))
          else
            bif (l'.getD t10.toNat (0, false, 0, ())).snd.fst then
              Option.bind (ref_Inside_f nf (IntKind.i64.wrap ((↑l'.length : Int) + 1)) ([(l'.getD t10.toNat (0, false, 0, ())).snd.snd.fst])) fun r =>
              bif !r.fst then
                some ((2, ()))
              else
                g0 (IntKind.i64.wrap (t10 + 1))
            else
              g0 (IntKind.i64.wrap (t10 + 1))
      else
        bif (l'.getD t10.toNat (0, false, 0, ())).snd.fst then
          Option.bind (ref_Inside_f nf (IntKind.i64.wrap ((↑l'.length : Int) + 1)) ([(l'.getD t10.toNat (0, false, 0, ())).snd.snd.fst])) fun r2 =>
          bif !r2.fst then
            some ((2, ()))
          else
            g0 (IntKind.i64.wrap (t10 + 1))
        else
          g0 (IntKind.i64.wrap (t10 + 1))
    else
      none
  else
    some ((0, ()))
def ref_PieceCheck_p (nf : Nat) (l0 : List (Int × Bool × Int × Unit) → Int → Option (Int × Unit)) (l' : List (Int × Bool × Int × Unit)) : Option (Int × Unit) :=
  bif decide ((↑l'.length : Int) > 10) then
    some ((1, ()))
  else
    l0 l' 0
def ref_PieceCheck_l0 (nf : Nat) (l' : List (Int × Bool × Int × Unit)) : Nat → Int → Option (Int × Unit)
  | 0, _ => none
  | fu + 1, t10 => ref_PieceCheck_b0 nf  l'  (ref_PieceCheck_l0 nf l'  fu) t10
def ref_PieceCheck_f (nf : Nat) (l' : List (Int × Bool × Int × Unit)) : Option (Int × Unit) := ref_PieceCheck_p nf (fun p0 v0 => ref_PieceCheck_l0 nf p0 nf v0) l'
noncomputable def ref_PieceCheck_L0 (nf : Nat) : LC (Int × Unit) := theL (findL tab (ref_PieceCheck_phi nf) (fun _ F => iter nf F) ref_PieceCheck_keep 0 0 (codeOf Try.f31) (fin tab [(Ty.int IntKind.i64, Md.bor false true)] Try.f31.results.toList) (fun _ _ => none) (fin tab [(Ty.int IntKind.i64, Md.bor false true)] Try.f31.results.toList))
def ref_PieceCheck_m0 (l' : List (Int × Bool × Int × Unit)) (t10 : Int) : St := ⟨fresh, [(0, AV.v ((Ty.int IntKind.i64).pair (Ty.bool.pair ((Ty.int IntKind.i64).pair Ty.unit))).sl (Md.bor true false) l'), (8, AV.v ((Ty.int IntKind.i64).pair (Ty.bool.pair ((Ty.int IntKind.i64).pair Ty.unit))).sl (Md.bor true false) l'), (9, AV.v (Ty.int IntKind.i64) (Md.bor false true) (↑l'.length : Int)), (10, AV.v (Ty.int IntKind.i64) (Md.bor false true) t10)]⟩
theorem ref_PieceCheck_h0 (nf : Nat)  (l' : List (Int × Bool × Int × Unit)) (fu : Nat) (t10 : Int) : iter (fu + 1) (LC.F tab (ref_PieceCheck_phi nf) (fun _ F => iter nf F) ref_PieceCheck_keep 0 (ref_PieceCheck_L0 nf )) (ref_PieceCheck_m0 l' t10) = ref_PieceCheck_b0 nf  l'  (fun t10 => iter fu (LC.F tab (ref_PieceCheck_phi nf) (fun _ F => iter nf F) ref_PieceCheck_keep 0 (ref_PieceCheck_L0 nf )) (ref_PieceCheck_m0 l' t10)) t10 := by kernel_rfl
theorem ref_PieceCheck_e0 (nf : Nat)  (l' : List (Int × Bool × Int × Unit)) : ∀ (fu : Nat) (t10 : Int), iter fu (LC.F tab (ref_PieceCheck_phi nf) (fun _ F => iter nf F) ref_PieceCheck_keep 0 (ref_PieceCheck_L0 nf )) (ref_PieceCheck_m0 l' t10) = ref_PieceCheck_l0 nf l'  fu t10 := by
  intro fu
  induction fu with
  | zero => intros; rfl
  | succ fu ih =>
    intro t10
    rw [ref_PieceCheck_h0 nf  l' fu t10]
    simp only [ih]
    rfl
theorem ref_PieceCheck_eq (nf : Nat) (l' : List (Int × Bool × Int × Unit)) : runF tab (ref_PieceCheck_phi nf) ref_PieceCheck_keep nf [PT.val ((Ty.int IntKind.i64).pair (Ty.bool.pair ((Ty.int IntKind.i64).pair Ty.unit))).sl (Md.bor true false)] [(Ty.int IntKind.i64, Md.bor false true)] Try.f31.results.toList (codeOf Try.f31) ⟨l', ()⟩ = ref_PieceCheck_f nf l' := by
  have h : runF tab (ref_PieceCheck_phi nf) ref_PieceCheck_keep nf [PT.val ((Ty.int IntKind.i64).pair (Ty.bool.pair ((Ty.int IntKind.i64).pair Ty.unit))).sl (Md.bor true false)] [(Ty.int IntKind.i64, Md.bor false true)] Try.f31.results.toList (codeOf Try.f31) ⟨l', ()⟩ = ref_PieceCheck_p nf (fun p0 v0 => iter nf (LC.F tab (ref_PieceCheck_phi nf) (fun _ F => iter nf F) ref_PieceCheck_keep 0 (ref_PieceCheck_L0 nf)) (ref_PieceCheck_m0 p0 v0)) l' := by kernel_rfl
  rw [h]
  simp only [ref_PieceCheck_e0]
  rfl
def ref_PieceCheck_F (nf : Nat) (x : denPs [.val (.sl (.pair (.int .i64) (.pair (.bool) (.pair (.int .i64) (.unit))))) (.bor true false)]) : Option (denL [(.int .i64, .bor false true)]) := ref_PieceCheck_f nf x.1
def ref_PieceCheck_C (nf : Nat) : Contract := ⟨[.val (.sl (.pair (.int .i64) (.pair (.bool) (.pair (.int .i64) (.unit))))) (.bor true false)], [(.int .i64, .bor false true)], ref_PieceCheck_F nf⟩
theorem ref_PieceCheck_ok : FnOK Try.prog 31 := ⟨Try.f31, codeOf Try.f31, Try.func31, by kernel_rfl, by kernel_rfl⟩
theorem ref_PieceCheck_holds (nf : Nat) : Contract.Holds Try.prog 31 (ref_PieceCheck_C nf) :=
  fn_holds (Φ := ref_PieceCheck_phi nf) (keep := ref_PieceCheck_keep) (n := nf) ⟨tabs.1, tabs.2, (ctx_cons ref_Inside_ok (ref_Inside_holds nf) ctx_nil), mixed⟩ (fn := Try.f31) ⟨Try.func31, by kernel_rfl, by kernel_rfl, by kernel_rfl⟩ (fun x => ref_PieceCheck_eq nf x.1)

/-! codemason codemasonref.Bit -/
def ref_Bit_phi (nf : Nat) : Nat → Option Contract := lookC []
def ref_Bit_keep : Nat → List Nat := lookK []
def ref_Bit_p (nf : Nat)  (w : Int) (i : Int) : Option (Bool × Unit) :=
  bif decide (i ≥ 0) then
    bif decide (i < 32) then
      bif decide (0 ≤ IntKind.u64.wrap i) then
        some ((IntKind.u32.wrap (↑(BitVec.ofInt IntKind.u32.bits w &&& BitVec.ofInt IntKind.u32.bits (shlI IntKind.u32 1 (IntKind.u64.wrap i))).toNat : Int) != 0, ()))
      else
        none
    else
      some ((false, ()))
  else
    some ((false, ()))
def ref_Bit_f (nf : Nat) (w : Int) (i : Int) : Option (Bool × Unit) := ref_Bit_p nf  w i
theorem ref_Bit_eq (nf : Nat) (w : Int) (i : Int) : runF tab (ref_Bit_phi nf) ref_Bit_keep nf [PT.val (Ty.int IntKind.u32) (Md.bor true false), PT.val (Ty.int IntKind.i64) (Md.bor true false)] [(Ty.bool, Md.bor false true)] Try.f15.results.toList (codeOf Try.f15) ⟨w, i, ()⟩ = ref_Bit_f nf w i := by
  have h : runF tab (ref_Bit_phi nf) ref_Bit_keep nf [PT.val (Ty.int IntKind.u32) (Md.bor true false), PT.val (Ty.int IntKind.i64) (Md.bor true false)] [(Ty.bool, Md.bor false true)] Try.f15.results.toList (codeOf Try.f15) ⟨w, i, ()⟩ = ref_Bit_p nf  w i := by kernel_rfl
  exact h
def ref_Bit_F (nf : Nat) (x : denPs [.val (.int .u32) (.bor true false), .val (.int .i64) (.bor true false)]) : Option (denL [(.bool, .bor false true)]) := ref_Bit_f nf x.1 x.2.1
def ref_Bit_C (nf : Nat) : Contract := ⟨[.val (.int .u32) (.bor true false), .val (.int .i64) (.bor true false)], [(.bool, .bor false true)], ref_Bit_F nf⟩
theorem ref_Bit_ok : FnOK Try.prog 15 := ⟨Try.f15, codeOf Try.f15, Try.func15, by kernel_rfl, by kernel_rfl⟩
theorem ref_Bit_holds (nf : Nat) : Contract.Holds Try.prog 15 (ref_Bit_C nf) :=
  fn_holds (Φ := ref_Bit_phi nf) (keep := ref_Bit_keep) (n := nf) ⟨tabs.1, tabs.2, ctx_nil, mixed⟩ (fn := Try.f15) ⟨Try.func15, by kernel_rfl, by kernel_rfl, by kernel_rfl⟩ (fun x => ref_Bit_eq nf x.1 x.2.1)

/-! codemason codemasonref.Lays -/
def ref_Lays_phi (nf : Nat) : Nat → Option Contract := lookC [(15, ref_Bit_C nf)]
def ref_Lays_keep : Nat → List Nat := lookK [(2, [0, 1, 7, 8, 15, 33, 42, 44, 45, 46]), (0, [0, 1, 7, 8, 15, 16, 17, 18, 33, 42])]
def ref_Lays_b0 (nf : Nat) (l2 : List (Int × Bool × Int × Unit) → Int → List Int → List Int → Int → Option (List Int × List Int × Bool × Unit)) (l' : List (Int × Bool × Int × Unit)) (long : Int) (g0 : List Int → List Int → Int → Option (List Int × List Int × Bool × Unit)) (at' : List Int) (size' : List Int) (t18 : Int) : Option (List Int × List Int × Bool × Unit) :=
  bif decide (t18 < (↑l'.length : Int)) then
    bif inb t18 l'.length then
      bif (l'.getD t18.toNat (0, false, 0, ())).snd.fst then
        Option.bind (ref_Bit_f nf long t18) fun r =>
        bif r.fst then
          bif bimp false ![4].isEmpty && (size'.length + [4].length).ble lim then
            bif inb t18 at'.length then
              bif bimp false ![IntKind.i64.wrap (at'.getD t18.toNat 0 + 4)].isEmpty && (at'.length + [IntKind.i64.wrap (at'.getD t18.toNat 0 + 4)].length).ble lim then
                g0 (at' ++ [IntKind.i64.wrap (at'.getD t18.toNat 0 + 4)]) (size' ++ [4]) (IntKind.i64.wrap (t18 + 1))
              else
                none
            else
              none
          else
            none
        else
          bif bimp false ![2].isEmpty && (size'.length + [2].length).ble lim then
            bif inb t18 at'.length then
              bif bimp false ![IntKind.i64.wrap (at'.getD t18.toNat 0 + 2)].isEmpty && (at'.length + [IntKind.i64.wrap (at'.getD t18.toNat 0 + 2)].length).ble lim then
                g0 (at' ++ [IntKind.i64.wrap (at'.getD t18.toNat 0 + 2)]) (size' ++ [2]) (IntKind.i64.wrap (t18 + 1))
              else
                none
            else
              none
          else
            none
      else
        bif bimp false ![(l'.getD t18.toNat (0, false, 0, ())).fst].isEmpty && (size'.length + [(l'.getD t18.toNat (0, false, 0, ())).fst].length).ble lim then
          bif inb t18 at'.length then
            bif bimp false ![IntKind.i64.wrap (at'.getD t18.toNat 0 + (l'.getD t18.toNat (0, false, 0, ())).fst)].isEmpty && (at'.length + [IntKind.i64.wrap (at'.getD t18.toNat 0 + (l'.getD t18.toNat (0, false, 0, ())).fst)].length).ble lim then
              g0 (at' ++ [IntKind.i64.wrap (at'.getD t18.toNat 0 + (l'.getD t18.toNat (0, false, 0, ())).fst)]) (size' ++ [(l'.getD t18.toNat (0, false, 0, ())).fst]) (IntKind.i64.wrap (t18 + 1))
            else
              none
          else
            none
        else
          none
    else
      none
  else
    l2 l' long at' size' 0
def ref_Lays_b2 (nf : Nat) (l' : List (Int × Bool × Int × Unit)) (long : Int) (g2 : List Int → List Int → Int → Option (List Int × List Int × Bool × Unit)) (at'2 : List Int) (size'2 : List Int) (t46 : Int) : Option (List Int × List Int × Bool × Unit) :=
  bif decide (t46 < (↑l'.length : Int)) then
    bif inb t46 l'.length then
      bif !(l'.getD t46.toNat (0, false, 0, ())).snd.fst then
        g2 at'2 size'2 (IntKind.i64.wrap (t46 + 1))
      else
        Option.bind (ref_Bit_f nf long t46) fun r2 =>
        bif r2.fst then
          g2 at'2 size'2 (IntKind.i64.wrap (t46 + 1))
        else
          bif inb (l'.getD t46.toNat (0, false, 0, ())).snd.snd.fst at'2.length then
            bif inb (IntKind.i64.wrap (t46 + 1)) at'2.length then
              bif decide (IntKind.i64.wrap (at'2.getD (Int.toNat (l'.getD t46.toNat (0, false, 0, ())).snd.snd.fst) 0 - at'2.getD (IntKind.i64.wrap (t46 + 1)).toNat 0) > 50) then
                some (([], [], false, ()))
              else
                bif decide (IntKind.i64.wrap (0 - IntKind.i64.wrap (at'2.getD (Int.toNat (l'.getD t46.toNat (0, false, 0, ())).snd.snd.fst) 0 - at'2.getD (IntKind.i64.wrap (t46 + 1)).toNat 0)) > 50) then
                  some (([], [], false, ()))
                else
                  g2 at'2 size'2 (IntKind.i64.wrap (t46 + 1))
            else
              none
          else
            none
    else
      none
  else
    some ((at'2, size'2, true, ()))
def ref_Lays_p (nf : Nat) (l0 : List (Int × Bool × Int × Unit) → Int → List Int → List Int → Int → Option (List Int × List Int × Bool × Unit)) (l' : List (Int × Bool × Int × Unit)) (long : Int) : Option (List Int × List Int × Bool × Unit) :=
  l0 l' long [0] [] 0
def ref_Lays_l2 (nf : Nat) (l' : List (Int × Bool × Int × Unit)) (long : Int) : Nat → List Int → List Int → Int → Option (List Int × List Int × Bool × Unit)
  | 0, _, _, _ => none
  | fu + 1, at'2, size'2, t46 => ref_Lays_b2 nf  l' long  (ref_Lays_l2 nf l' long  fu) at'2 size'2 t46
def ref_Lays_l0 (nf : Nat) (l' : List (Int × Bool × Int × Unit)) (long : Int) : Nat → List Int → List Int → Int → Option (List Int × List Int × Bool × Unit)
  | 0, _, _, _ => none
  | fu + 1, at', size', t18 => ref_Lays_b0 nf (fun _ _ v0 v1 v2 => ref_Lays_l2 nf l' long  nf v0 v1 v2) l' long  (ref_Lays_l0 nf l' long  fu) at' size' t18
def ref_Lays_f (nf : Nat) (l' : List (Int × Bool × Int × Unit)) (long : Int) : Option (List Int × List Int × Bool × Unit) := ref_Lays_p nf (fun p0 p1 v0 v1 v2 => ref_Lays_l0 nf p0 p1 nf v0 v1 v2) l' long
noncomputable def ref_Lays_L0 (nf : Nat) : LC (List Int × List Int × Bool × Unit) := theL (findL tab (ref_Lays_phi nf) (fun _ F => iter nf F) ref_Lays_keep 0 0 (codeOf Try.f32) (fin tab [((Ty.int IntKind.i64).sl, Md.own false (Md.bor false false)), ((Ty.int IntKind.i64).sl, Md.own false (Md.bor false false)), (Ty.bool, Md.bor false true)] Try.f32.results.toList) (fun _ _ => none) (fin tab [((Ty.int IntKind.i64).sl, Md.own false (Md.bor false false)), ((Ty.int IntKind.i64).sl, Md.own false (Md.bor false false)), (Ty.bool, Md.bor false true)] Try.f32.results.toList))
def ref_Lays_m0 (l' : List (Int × Bool × Int × Unit)) (long : Int) (at' : List Int) (size' : List Int) (t18 : Int) : St := ⟨fresh, [(0, AV.v ((Ty.int IntKind.i64).pair (Ty.bool.pair ((Ty.int IntKind.i64).pair Ty.unit))).sl (Md.bor true false) l'), (1, AV.v (Ty.int IntKind.u32) (Md.bor false true) long), (7, AV.ow 500007 (Ty.int IntKind.i64).sl (Md.own false (Md.bor false false)) at'), (8, AV.ow 500008 (Ty.int IntKind.i64).sl (Md.own false (Md.bor false false)) size'), (15, AV.dead), (16, AV.v ((Ty.int IntKind.i64).pair (Ty.bool.pair ((Ty.int IntKind.i64).pair Ty.unit))).sl (Md.bor true false) l'), (17, AV.v (Ty.int IntKind.i64) (Md.bor false true) (↑l'.length : Int)), (18, AV.v (Ty.int IntKind.i64) (Md.bor false true) t18), (33, AV.dead), (42, AV.dead)]⟩
noncomputable def ref_Lays_L2 (nf : Nat) : LC (List Int × List Int × Bool × Unit) := theL (findL tab (ref_Lays_phi nf) (fun _ F => iter nf F) ref_Lays_keep 2 0 (codeOf Try.f32) (fin tab [((Ty.int IntKind.i64).sl, Md.own false (Md.bor false false)), ((Ty.int IntKind.i64).sl, Md.own false (Md.bor false false)), (Ty.bool, Md.bor false true)] Try.f32.results.toList) (fun _ _ => none) (fin tab [((Ty.int IntKind.i64).sl, Md.own false (Md.bor false false)), ((Ty.int IntKind.i64).sl, Md.own false (Md.bor false false)), (Ty.bool, Md.bor false true)] Try.f32.results.toList))
def ref_Lays_m2 (l' : List (Int × Bool × Int × Unit)) (long : Int) (at'2 : List Int) (size'2 : List Int) (t46 : Int) : St := ⟨fresh, [(0, AV.v ((Ty.int IntKind.i64).pair (Ty.bool.pair ((Ty.int IntKind.i64).pair Ty.unit))).sl (Md.bor true false) l'), (1, AV.v (Ty.int IntKind.u32) (Md.bor false true) long), (7, AV.ow 500007 (Ty.int IntKind.i64).sl (Md.own false (Md.bor false false)) at'2), (8, AV.ow 500008 (Ty.int IntKind.i64).sl (Md.own false (Md.bor false false)) size'2), (15, AV.dead), (33, AV.dead), (42, AV.dead), (44, AV.v ((Ty.int IntKind.i64).pair (Ty.bool.pair ((Ty.int IntKind.i64).pair Ty.unit))).sl (Md.bor true false) l'), (45, AV.v (Ty.int IntKind.i64) (Md.bor false true) (↑l'.length : Int)), (46, AV.v (Ty.int IntKind.i64) (Md.bor false true) t46)]⟩
theorem ref_Lays_h2 (nf : Nat)  (l' : List (Int × Bool × Int × Unit)) (long : Int) (fu : Nat) (at'2 : List Int) (size'2 : List Int) (t46 : Int) : iter (fu + 1) (LC.F tab (ref_Lays_phi nf) (fun _ F => iter nf F) ref_Lays_keep 2 (ref_Lays_L2 nf )) (ref_Lays_m2 l' long at'2 size'2 t46) = ref_Lays_b2 nf  l' long  (fun at'2 size'2 t46 => iter fu (LC.F tab (ref_Lays_phi nf) (fun _ F => iter nf F) ref_Lays_keep 2 (ref_Lays_L2 nf )) (ref_Lays_m2 l' long at'2 size'2 t46)) at'2 size'2 t46 := by kernel_rfl
theorem ref_Lays_e2 (nf : Nat)  (l' : List (Int × Bool × Int × Unit)) (long : Int) : ∀ (fu : Nat) (at'2 : List Int) (size'2 : List Int) (t46 : Int), iter fu (LC.F tab (ref_Lays_phi nf) (fun _ F => iter nf F) ref_Lays_keep 2 (ref_Lays_L2 nf )) (ref_Lays_m2 l' long at'2 size'2 t46) = ref_Lays_l2 nf l' long  fu at'2 size'2 t46 := by
  intro fu
  induction fu with
  | zero => intros; rfl
  | succ fu ih =>
    intro at'2 size'2 t46
    rw [ref_Lays_h2 nf  l' long fu at'2 size'2 t46]
    simp only [ih]
    rfl
theorem ref_Lays_h0 (nf : Nat)  (l' : List (Int × Bool × Int × Unit)) (long : Int) (fu : Nat) (at' : List Int) (size' : List Int) (t18 : Int) : iter (fu + 1) (LC.F tab (ref_Lays_phi nf) (fun _ F => iter nf F) ref_Lays_keep 0 (ref_Lays_L0 nf )) (ref_Lays_m0 l' long at' size' t18) = ref_Lays_b0 nf (fun _ _ v0 v1 v2 => iter nf (LC.F tab (ref_Lays_phi nf) (fun _ F => iter nf F) ref_Lays_keep 2 (ref_Lays_L2 nf )) (ref_Lays_m2 l' long v0 v1 v2)) l' long  (fun at' size' t18 => iter fu (LC.F tab (ref_Lays_phi nf) (fun _ F => iter nf F) ref_Lays_keep 0 (ref_Lays_L0 nf )) (ref_Lays_m0 l' long at' size' t18)) at' size' t18 := by kernel_rfl
theorem ref_Lays_e0 (nf : Nat)  (l' : List (Int × Bool × Int × Unit)) (long : Int) : ∀ (fu : Nat) (at' : List Int) (size' : List Int) (t18 : Int), iter fu (LC.F tab (ref_Lays_phi nf) (fun _ F => iter nf F) ref_Lays_keep 0 (ref_Lays_L0 nf )) (ref_Lays_m0 l' long at' size' t18) = ref_Lays_l0 nf l' long  fu at' size' t18 := by
  intro fu
  induction fu with
  | zero => intros; rfl
  | succ fu ih =>
    intro at' size' t18
    rw [ref_Lays_h0 nf  l' long fu at' size' t18]
    simp only [ih, ref_Lays_e2]
    rfl
theorem ref_Lays_eq (nf : Nat) (l' : List (Int × Bool × Int × Unit)) (long : Int) : runF tab (ref_Lays_phi nf) ref_Lays_keep nf [PT.val ((Ty.int IntKind.i64).pair (Ty.bool.pair ((Ty.int IntKind.i64).pair Ty.unit))).sl (Md.bor true false), PT.val (Ty.int IntKind.u32) (Md.bor true false)] [((Ty.int IntKind.i64).sl, Md.own false (Md.bor false false)), ((Ty.int IntKind.i64).sl, Md.own false (Md.bor false false)), (Ty.bool, Md.bor false true)] Try.f32.results.toList (codeOf Try.f32) ⟨l', long, ()⟩ = ref_Lays_f nf l' long := by
  have h : runF tab (ref_Lays_phi nf) ref_Lays_keep nf [PT.val ((Ty.int IntKind.i64).pair (Ty.bool.pair ((Ty.int IntKind.i64).pair Ty.unit))).sl (Md.bor true false), PT.val (Ty.int IntKind.u32) (Md.bor true false)] [((Ty.int IntKind.i64).sl, Md.own false (Md.bor false false)), ((Ty.int IntKind.i64).sl, Md.own false (Md.bor false false)), (Ty.bool, Md.bor false true)] Try.f32.results.toList (codeOf Try.f32) ⟨l', long, ()⟩ = ref_Lays_p nf (fun p0 p1 v0 v1 v2 => iter nf (LC.F tab (ref_Lays_phi nf) (fun _ F => iter nf F) ref_Lays_keep 0 (ref_Lays_L0 nf)) (ref_Lays_m0 p0 p1 v0 v1 v2)) l' long := by kernel_rfl
  rw [h]
  simp only [ref_Lays_e0]
  rfl
def ref_Lays_F (nf : Nat) (x : denPs [.val (.sl (.pair (.int .i64) (.pair (.bool) (.pair (.int .i64) (.unit))))) (.bor true false), .val (.int .u32) (.bor true false)]) : Option (denL [(.sl (.int .i64), .own false (.bor false false)), (.sl (.int .i64), .own false (.bor false false)), (.bool, .bor false true)]) := ref_Lays_f nf x.1 x.2.1
def ref_Lays_C (nf : Nat) : Contract := ⟨[.val (.sl (.pair (.int .i64) (.pair (.bool) (.pair (.int .i64) (.unit))))) (.bor true false), .val (.int .u32) (.bor true false)], [(.sl (.int .i64), .own false (.bor false false)), (.sl (.int .i64), .own false (.bor false false)), (.bool, .bor false true)], ref_Lays_F nf⟩
theorem ref_Lays_ok : FnOK Try.prog 32 := ⟨Try.f32, codeOf Try.f32, Try.func32, by kernel_rfl, by kernel_rfl⟩
theorem ref_Lays_holds (nf : Nat) : Contract.Holds Try.prog 32 (ref_Lays_C nf) :=
  fn_holds (Φ := ref_Lays_phi nf) (keep := ref_Lays_keep) (n := nf) ⟨tabs.1, tabs.2, (ctx_cons ref_Bit_ok (ref_Bit_holds nf) ctx_nil), mixed⟩ (fn := Try.f32) ⟨Try.func32, by kernel_rfl, by kernel_rfl, by kernel_rfl⟩ (fun x => ref_Lays_eq nf x.1 x.2.1)

/-! codemason codemasonref.Size -/
def ref_Size_phi (nf : Nat) : Nat → Option Contract := lookC [(15, ref_Bit_C nf)]
def ref_Size_keep : Nat → List Nat := lookK [(0, [0, 3, 4])]
def ref_Size_b0 (nf : Nat) (w : Int) (g0 : Int → Int → Option (Int × Unit)) (n' : Int) (i : Int) : Option (Int × Unit) :=
  bif decide (i < 32) then
    Option.bind (ref_Bit_f nf w i) fun r =>
    bif r.fst then
      g0 (IntKind.i64.wrap (n' + 1)) (IntKind.i64.wrap (i + 1))
    else
      g0 n' (IntKind.i64.wrap (i + 1))
  else
    some ((n', ()))
def ref_Size_p (nf : Nat) (l0 : Int → Int → Int → Option (Int × Unit)) (w : Int) : Option (Int × Unit) :=
  l0 w 0 0
def ref_Size_l0 (nf : Nat) (w : Int) : Nat → Int → Int → Option (Int × Unit)
  | 0, _, _ => none
  | fu + 1, n', i => ref_Size_b0 nf  w  (ref_Size_l0 nf w  fu) n' i
def ref_Size_f (nf : Nat) (w : Int) : Option (Int × Unit) := ref_Size_p nf (fun p0 v0 v1 => ref_Size_l0 nf p0 nf v0 v1) w
noncomputable def ref_Size_L0 (nf : Nat) : LC (Int × Unit) := theL (findL tab (ref_Size_phi nf) (fun _ F => iter nf F) ref_Size_keep 0 0 (codeOf Try.f18) (fin tab [(Ty.int IntKind.i64, Md.bor false true)] Try.f18.results.toList) (fun _ _ => none) (fin tab [(Ty.int IntKind.i64, Md.bor false true)] Try.f18.results.toList))
def ref_Size_m0 (w : Int) (n' : Int) (i : Int) : St := ⟨fresh, [(0, AV.v (Ty.int IntKind.u32) (Md.bor false true) w), (3, AV.v (Ty.int IntKind.i64) (Md.bor false true) n'), (4, AV.v (Ty.int IntKind.i64) (Md.bor false true) i)]⟩
theorem ref_Size_h0 (nf : Nat)  (w : Int) (fu : Nat) (n' : Int) (i : Int) : iter (fu + 1) (LC.F tab (ref_Size_phi nf) (fun _ F => iter nf F) ref_Size_keep 0 (ref_Size_L0 nf )) (ref_Size_m0 w n' i) = ref_Size_b0 nf  w  (fun n' i => iter fu (LC.F tab (ref_Size_phi nf) (fun _ F => iter nf F) ref_Size_keep 0 (ref_Size_L0 nf )) (ref_Size_m0 w n' i)) n' i := by kernel_rfl
theorem ref_Size_e0 (nf : Nat)  (w : Int) : ∀ (fu : Nat) (n' : Int) (i : Int), iter fu (LC.F tab (ref_Size_phi nf) (fun _ F => iter nf F) ref_Size_keep 0 (ref_Size_L0 nf )) (ref_Size_m0 w n' i) = ref_Size_l0 nf w  fu n' i := by
  intro fu
  induction fu with
  | zero => intros; rfl
  | succ fu ih =>
    intro n' i
    rw [ref_Size_h0 nf  w fu n' i]
    simp only [ih]
    rfl
theorem ref_Size_eq (nf : Nat) (w : Int) : runF tab (ref_Size_phi nf) ref_Size_keep nf [PT.val (Ty.int IntKind.u32) (Md.bor true false)] [(Ty.int IntKind.i64, Md.bor false true)] Try.f18.results.toList (codeOf Try.f18) ⟨w, ()⟩ = ref_Size_f nf w := by
  have h : runF tab (ref_Size_phi nf) ref_Size_keep nf [PT.val (Ty.int IntKind.u32) (Md.bor true false)] [(Ty.int IntKind.i64, Md.bor false true)] Try.f18.results.toList (codeOf Try.f18) ⟨w, ()⟩ = ref_Size_p nf (fun p0 v0 v1 => iter nf (LC.F tab (ref_Size_phi nf) (fun _ F => iter nf F) ref_Size_keep 0 (ref_Size_L0 nf)) (ref_Size_m0 p0 v0 v1)) w := by kernel_rfl
  rw [h]
  simp only [ref_Size_e0]
  rfl
def ref_Size_F (nf : Nat) (x : denPs [.val (.int .u32) (.bor true false)]) : Option (denL [(.int .i64, .bor false true)]) := ref_Size_f nf x.1
def ref_Size_C (nf : Nat) : Contract := ⟨[.val (.int .u32) (.bor true false)], [(.int .i64, .bor false true)], ref_Size_F nf⟩
theorem ref_Size_ok : FnOK Try.prog 18 := ⟨Try.f18, codeOf Try.f18, Try.func18, by kernel_rfl, by kernel_rfl⟩
theorem ref_Size_holds (nf : Nat) : Contract.Holds Try.prog 18 (ref_Size_C nf) :=
  fn_holds (Φ := ref_Size_phi nf) (keep := ref_Size_keep) (n := nf) ⟨tabs.1, tabs.2, (ctx_cons ref_Bit_ok (ref_Bit_holds nf) ctx_nil), mixed⟩ (fn := Try.f18) ⟨Try.func18, by kernel_rfl, by kernel_rfl, by kernel_rfl⟩ (fun x => ref_Size_eq nf x.1)

/-! codemason codemasonref.In -/
def ref_In_phi (nf : Nat) : Nat → Option Contract := lookC []
def ref_In_keep : Nat → List Nat := lookK []
def ref_In_p (nf : Nat)  (a : Int) (b : Int) : Option (Bool × Unit) :=
  some ((IntKind.u32.wrap (↑(BitVec.ofInt IntKind.u32.bits a ||| BitVec.ofInt IntKind.u32.bits b).toNat : Int) == b, ()))
def ref_In_f (nf : Nat) (a : Int) (b : Int) : Option (Bool × Unit) := ref_In_p nf  a b
theorem ref_In_eq (nf : Nat) (a : Int) (b : Int) : runF tab (ref_In_phi nf) ref_In_keep nf [PT.val (Ty.int IntKind.u32) (Md.bor true false), PT.val (Ty.int IntKind.u32) (Md.bor true false)] [(Ty.bool, Md.bor false true)] Try.f46.results.toList (codeOf Try.f46) ⟨a, b, ()⟩ = ref_In_f nf a b := by
  have h : runF tab (ref_In_phi nf) ref_In_keep nf [PT.val (Ty.int IntKind.u32) (Md.bor true false), PT.val (Ty.int IntKind.u32) (Md.bor true false)] [(Ty.bool, Md.bor false true)] Try.f46.results.toList (codeOf Try.f46) ⟨a, b, ()⟩ = ref_In_p nf  a b := by kernel_rfl
  exact h
def ref_In_F (nf : Nat) (x : denPs [.val (.int .u32) (.bor true false), .val (.int .u32) (.bor true false)]) : Option (denL [(.bool, .bor false true)]) := ref_In_f nf x.1 x.2.1
def ref_In_C (nf : Nat) : Contract := ⟨[.val (.int .u32) (.bor true false), .val (.int .u32) (.bor true false)], [(.bool, .bor false true)], ref_In_F nf⟩
theorem ref_In_ok : FnOK Try.prog 46 := ⟨Try.f46, codeOf Try.f46, Try.func46, by kernel_rfl, by kernel_rfl⟩
theorem ref_In_holds (nf : Nat) : Contract.Holds Try.prog 46 (ref_In_C nf) :=
  fn_holds (Φ := ref_In_phi nf) (keep := ref_In_keep) (n := nf) ⟨tabs.1, tabs.2, ctx_nil, mixed⟩ (fn := Try.f46) ⟨Try.func46, by kernel_rfl, by kernel_rfl, by kernel_rfl⟩ (fun x => ref_In_eq nf x.1 x.2.1)

/-! codemason codemasonref.FewLong -/
def ref_FewLong_phi (nf : Nat) : Nat → Option Contract := lookC [(18, ref_Size_C nf), (32, ref_Lays_C nf), (46, ref_In_C nf)]
def ref_FewLong_keep : Nat → List Nat := lookK [(2, [0, 3, 6, 7]), (0, [0, 3, 11, 12, 13])]
def ref_FewLong_b0 (nf : Nat) (l2 : List (Int × Bool × Int × Unit) → Int → Int → Int → Option (Int × Unit)) (l' : List (Int × Bool × Int × Unit)) (g0 : Int → Int → Option (Int × Unit)) (jumps : Int) (t13 : Int) : Option (Int × Unit) :=
  bif decide (t13 < (↑l'.length : Int)) then
    bif inb t13 l'.length then
      bif (l'.getD t13.toNat (0, false, 0, ())).snd.fst then
        bif decide (0 ≤ IntKind.u64.wrap t13) then
          g0 (IntKind.u32.wrap (↑(BitVec.ofInt IntKind.u32.bits jumps ||| BitVec.ofInt IntKind.u32.bits (shlI IntKind.u32 1 (IntKind.u64.wrap t13))).toNat : Int)) (IntKind.i64.wrap (t13 + 1))
        else
          none
      else
        g0 jumps (IntKind.i64.wrap (t13 + 1))
    else
      none
  else
    l2 l' jumps jumps 0
def ref_FewLong_b2 (nf : Nat) (l' : List (Int × Bool × Int × Unit)) (jumps : Int) (g2 : Int → Int → Option (Int × Unit)) (best : Int) (s : Int) : Option (Int × Unit) :=
  bif decide (s < shlI IntKind.u32 1 (IntKind.u64.wrap (↑l'.length : Int))) then
    Option.bind (ref_In_f nf s jumps) fun r =>
    bif !r.fst then
      g2 best (IntKind.u32.wrap (s + 1))
    else
      Option.bind (ref_Size_f nf s) fun r2 =>
      Option.bind (ref_Size_f nf best) fun r3 =>
      bif decide (r2.fst ≥ r3.fst) then
        g2 best (IntKind.u32.wrap (s + 1))
      else
        Option.bind (ref_Lays_f nf l' s) fun r4 =>
        bif r4.snd.snd.fst then
          g2 s (IntKind.u32.wrap (s + 1))
        else
          g2 best (IntKind.u32.wrap (s + 1))
  else
    some ((best, ()))
def ref_FewLong_p (nf : Nat) (l0 : List (Int × Bool × Int × Unit) → Int → Int → Option (Int × Unit)) (l' : List (Int × Bool × Int × Unit)) : Option (Int × Unit) :=
  l0 l' 0 0
def ref_FewLong_l2 (nf : Nat) (l' : List (Int × Bool × Int × Unit)) (jumps : Int) : Nat → Int → Int → Option (Int × Unit)
  | 0, _, _ => none
  | fu + 1, best, s => ref_FewLong_b2 nf  l' jumps  (ref_FewLong_l2 nf l' jumps  fu) best s
def ref_FewLong_l0 (nf : Nat) (l' : List (Int × Bool × Int × Unit)) : Nat → Int → Int → Option (Int × Unit)
  | 0, _, _ => none
  | fu + 1, jumps, t13 => ref_FewLong_b0 nf (fun _ p1 v0 v1 => ref_FewLong_l2 nf l' p1  nf v0 v1) l'  (ref_FewLong_l0 nf l'  fu) jumps t13
def ref_FewLong_f (nf : Nat) (l' : List (Int × Bool × Int × Unit)) : Option (Int × Unit) := ref_FewLong_p nf (fun p0 v0 v1 => ref_FewLong_l0 nf p0 nf v0 v1) l'
noncomputable def ref_FewLong_L0 (nf : Nat) : LC (Int × Unit) := theL (findL tab (ref_FewLong_phi nf) (fun _ F => iter nf F) ref_FewLong_keep 0 0 (codeOf Try.f33) (fin tab [(Ty.int IntKind.u32, Md.bor false true)] Try.f33.results.toList) (fun _ _ => none) (fin tab [(Ty.int IntKind.u32, Md.bor false true)] Try.f33.results.toList))
def ref_FewLong_m0 (l' : List (Int × Bool × Int × Unit)) (jumps : Int) (t13 : Int) : St := ⟨fresh, [(0, AV.v ((Ty.int IntKind.i64).pair (Ty.bool.pair ((Ty.int IntKind.i64).pair Ty.unit))).sl (Md.bor true false) l'), (3, AV.v (Ty.int IntKind.u32) (Md.bor false true) jumps), (11, AV.v ((Ty.int IntKind.i64).pair (Ty.bool.pair ((Ty.int IntKind.i64).pair Ty.unit))).sl (Md.bor true false) l'), (12, AV.v (Ty.int IntKind.i64) (Md.bor false true) (↑l'.length : Int)), (13, AV.v (Ty.int IntKind.i64) (Md.bor false true) t13)]⟩
noncomputable def ref_FewLong_L2 (nf : Nat) : LC (Int × Unit) := theL (findL tab (ref_FewLong_phi nf) (fun _ F => iter nf F) ref_FewLong_keep 2 0 (codeOf Try.f33) (fin tab [(Ty.int IntKind.u32, Md.bor false true)] Try.f33.results.toList) (fun _ _ => none) (fin tab [(Ty.int IntKind.u32, Md.bor false true)] Try.f33.results.toList))
def ref_FewLong_m2 (l' : List (Int × Bool × Int × Unit)) (jumps : Int) (best : Int) (s : Int) : St := ⟨fresh, [(0, AV.v ((Ty.int IntKind.i64).pair (Ty.bool.pair ((Ty.int IntKind.i64).pair Ty.unit))).sl (Md.bor true false) l'), (3, AV.v (Ty.int IntKind.u32) (Md.bor false true) jumps), (6, AV.v (Ty.int IntKind.u32) (Md.bor false true) best), (7, AV.v (Ty.int IntKind.u32) (Md.bor false true) s)]⟩
theorem ref_FewLong_h2 (nf : Nat)  (l' : List (Int × Bool × Int × Unit)) (jumps : Int) (fu : Nat) (best : Int) (s : Int) : iter (fu + 1) (LC.F tab (ref_FewLong_phi nf) (fun _ F => iter nf F) ref_FewLong_keep 2 (ref_FewLong_L2 nf )) (ref_FewLong_m2 l' jumps best s) = ref_FewLong_b2 nf  l' jumps  (fun best s => iter fu (LC.F tab (ref_FewLong_phi nf) (fun _ F => iter nf F) ref_FewLong_keep 2 (ref_FewLong_L2 nf )) (ref_FewLong_m2 l' jumps best s)) best s := by kernel_rfl
theorem ref_FewLong_e2 (nf : Nat)  (l' : List (Int × Bool × Int × Unit)) (jumps : Int) : ∀ (fu : Nat) (best : Int) (s : Int), iter fu (LC.F tab (ref_FewLong_phi nf) (fun _ F => iter nf F) ref_FewLong_keep 2 (ref_FewLong_L2 nf )) (ref_FewLong_m2 l' jumps best s) = ref_FewLong_l2 nf l' jumps  fu best s := by
  intro fu
  induction fu with
  | zero => intros; rfl
  | succ fu ih =>
    intro best s
    rw [ref_FewLong_h2 nf  l' jumps fu best s]
    simp only [ih]
    rfl
theorem ref_FewLong_h0 (nf : Nat)  (l' : List (Int × Bool × Int × Unit)) (fu : Nat) (jumps : Int) (t13 : Int) : iter (fu + 1) (LC.F tab (ref_FewLong_phi nf) (fun _ F => iter nf F) ref_FewLong_keep 0 (ref_FewLong_L0 nf )) (ref_FewLong_m0 l' jumps t13) = ref_FewLong_b0 nf (fun _ p1 v0 v1 => iter nf (LC.F tab (ref_FewLong_phi nf) (fun _ F => iter nf F) ref_FewLong_keep 2 (ref_FewLong_L2 nf )) (ref_FewLong_m2 l' p1 v0 v1)) l'  (fun jumps t13 => iter fu (LC.F tab (ref_FewLong_phi nf) (fun _ F => iter nf F) ref_FewLong_keep 0 (ref_FewLong_L0 nf )) (ref_FewLong_m0 l' jumps t13)) jumps t13 := by kernel_rfl
theorem ref_FewLong_e0 (nf : Nat)  (l' : List (Int × Bool × Int × Unit)) : ∀ (fu : Nat) (jumps : Int) (t13 : Int), iter fu (LC.F tab (ref_FewLong_phi nf) (fun _ F => iter nf F) ref_FewLong_keep 0 (ref_FewLong_L0 nf )) (ref_FewLong_m0 l' jumps t13) = ref_FewLong_l0 nf l'  fu jumps t13 := by
  intro fu
  induction fu with
  | zero => intros; rfl
  | succ fu ih =>
    intro jumps t13
    rw [ref_FewLong_h0 nf  l' fu jumps t13]
    simp only [ih, ref_FewLong_e2]
    rfl
theorem ref_FewLong_eq (nf : Nat) (l' : List (Int × Bool × Int × Unit)) : runF tab (ref_FewLong_phi nf) ref_FewLong_keep nf [PT.val ((Ty.int IntKind.i64).pair (Ty.bool.pair ((Ty.int IntKind.i64).pair Ty.unit))).sl (Md.bor true false)] [(Ty.int IntKind.u32, Md.bor false true)] Try.f33.results.toList (codeOf Try.f33) ⟨l', ()⟩ = ref_FewLong_f nf l' := by
  have h : runF tab (ref_FewLong_phi nf) ref_FewLong_keep nf [PT.val ((Ty.int IntKind.i64).pair (Ty.bool.pair ((Ty.int IntKind.i64).pair Ty.unit))).sl (Md.bor true false)] [(Ty.int IntKind.u32, Md.bor false true)] Try.f33.results.toList (codeOf Try.f33) ⟨l', ()⟩ = ref_FewLong_p nf (fun p0 v0 v1 => iter nf (LC.F tab (ref_FewLong_phi nf) (fun _ F => iter nf F) ref_FewLong_keep 0 (ref_FewLong_L0 nf)) (ref_FewLong_m0 p0 v0 v1)) l' := by kernel_rfl
  rw [h]
  simp only [ref_FewLong_e0]
  rfl
def ref_FewLong_F (nf : Nat) (x : denPs [.val (.sl (.pair (.int .i64) (.pair (.bool) (.pair (.int .i64) (.unit))))) (.bor true false)]) : Option (denL [(.int .u32, .bor false true)]) := ref_FewLong_f nf x.1
def ref_FewLong_C (nf : Nat) : Contract := ⟨[.val (.sl (.pair (.int .i64) (.pair (.bool) (.pair (.int .i64) (.unit))))) (.bor true false)], [(.int .u32, .bor false true)], ref_FewLong_F nf⟩
theorem ref_FewLong_ok : FnOK Try.prog 33 := ⟨Try.f33, codeOf Try.f33, Try.func33, by kernel_rfl, by kernel_rfl⟩
theorem ref_FewLong_holds (nf : Nat) : Contract.Holds Try.prog 33 (ref_FewLong_C nf) :=
  fn_holds (Φ := ref_FewLong_phi nf) (keep := ref_FewLong_keep) (n := nf) ⟨tabs.1, tabs.2, (ctx_cons ref_Size_ok (ref_Size_holds nf) (ctx_cons ref_Lays_ok (ref_Lays_holds nf) (ctx_cons ref_In_ok (ref_In_holds nf) ctx_nil))), mixed⟩ (fn := Try.f33) ⟨Try.func33, by kernel_rfl, by kernel_rfl, by kernel_rfl⟩ (fun x => ref_FewLong_eq nf x.1)

/-! codemason codemasonlaw.JumpLays -/
def law_JumpLays_phi (nf : Nat) : Nat → Option Contract := lookC [(22, ref_Ints_C nf), (30, jump_Lay_C nf), (31, ref_PieceCheck_C nf), (32, ref_Lays_C nf), (33, ref_FewLong_C nf)]
def law_JumpLays_keep : Nat → List Nat := lookK []
def law_JumpLays_p (nf : Nat)  (l' : List (Int × Bool × Int × Unit)) : Option (Bool × Unit) :=
  Option.bind (jump_Lay_f nf l') fun r =>
  Option.bind (ref_PieceCheck_f nf l') fun r2 =>
  bif r2.fst != 0 then
    bif r.snd.snd.fst == r2.fst then
      bif (↑(List.length r.fst) : Int) == 0 then
        some (((↑(List.length r.snd.fst) : Int) == 0, ()))
      else
        some ((false, ()))
    else
      some ((false, ()))
  else
    Option.bind (ref_FewLong_f nf l') fun r3 =>
    Option.bind (ref_Lays_f nf l' r3.fst) fun r4 =>
    bif r.snd.snd.fst == 0 then
      Option.bind (ref_Ints_f nf r.fst r4.fst) fun r5 =>
      bif r5.fst then
        Option.bind (ref_Ints_f nf r.snd.fst r4.snd.fst) fun r6 =>
        some ((r6.fst, ()))
      else
        some ((false, ()))
    else
      some ((false, ()))
def law_JumpLays_f (nf : Nat) (l' : List (Int × Bool × Int × Unit)) : Option (Bool × Unit) := law_JumpLays_p nf  l'
theorem law_JumpLays_eq (nf : Nat) (l' : List (Int × Bool × Int × Unit)) : runF tab (law_JumpLays_phi nf) law_JumpLays_keep nf [PT.val ((Ty.int IntKind.i64).pair (Ty.bool.pair ((Ty.int IntKind.i64).pair Ty.unit))).sl (Md.bor true false)] [(Ty.bool, Md.bor false true)] Try.f9.results.toList (codeOf Try.f9) ⟨l', ()⟩ = law_JumpLays_f nf l' := by
  have h : runF tab (law_JumpLays_phi nf) law_JumpLays_keep nf [PT.val ((Ty.int IntKind.i64).pair (Ty.bool.pair ((Ty.int IntKind.i64).pair Ty.unit))).sl (Md.bor true false)] [(Ty.bool, Md.bor false true)] Try.f9.results.toList (codeOf Try.f9) ⟨l', ()⟩ = law_JumpLays_p nf  l' := by kernel_rfl
  exact h
def law_JumpLays_F (nf : Nat) (x : denPs [.val (.sl (.pair (.int .i64) (.pair (.bool) (.pair (.int .i64) (.unit))))) (.bor true false)]) : Option (denL [(.bool, .bor false true)]) := law_JumpLays_f nf x.1
def law_JumpLays_C (nf : Nat) : Contract := ⟨[.val (.sl (.pair (.int .i64) (.pair (.bool) (.pair (.int .i64) (.unit))))) (.bor true false)], [(.bool, .bor false true)], law_JumpLays_F nf⟩
theorem law_JumpLays_ok : FnOK Try.prog 9 := ⟨Try.f9, codeOf Try.f9, Try.func9, by kernel_rfl, by kernel_rfl⟩
theorem law_JumpLays_holds (nf : Nat) : Contract.Holds Try.prog 9 (law_JumpLays_C nf) :=
  fn_holds (Φ := law_JumpLays_phi nf) (keep := law_JumpLays_keep) (n := nf) ⟨tabs.1, tabs.2, (ctx_cons ref_Ints_ok (ref_Ints_holds nf) (ctx_cons jump_Lay_ok (jump_Lay_holds nf) (ctx_cons ref_PieceCheck_ok (ref_PieceCheck_holds nf) (ctx_cons ref_Lays_ok (ref_Lays_holds nf) (ctx_cons ref_FewLong_ok (ref_FewLong_holds nf) ctx_nil))))), mixed⟩ (fn := Try.f9) ⟨Try.func9, by kernel_rfl, by kernel_rfl, by kernel_rfl⟩ (fun x => law_JumpLays_eq nf x.1)
end Go.Proofs.Ytgbldmehdipfaaa.S
