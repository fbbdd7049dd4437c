/- The functions of the code, as plain functions, and the theorems that say so: made by a program of this proof's own. -/
import Derived.Test.YtpnganfbonlphaaFn1
import Derived.Test.YtpnganfbonlphaaFn8
import Derived.Test.YtpnganfbonlphaaChecked
namespace Go.Proofs.Ytpnganfbonlphaa.S
open Go Go.Ab
noncomputable section

/-! codemason codemasonref.Terms -/
def ref_Terms_phi (nf : Nat) : Nat → Option Contract := lookC []
def ref_Terms_keep : Nat → List Nat := lookK [(0, [0, 1, 5])]
def ref_Terms_b0 (nf : Nat) (a : List (Int × Int × Int × Int × Unit)) (b : List (Int × Int × Int × Int × Unit)) (g0 : Int → Option (Bool × Unit)) (i : Int) : Option (Bool × Unit) :=
  bif decide (i < (↑a.length : Int)) then
    bif inb i a.length then
      bif inb i b.length then
        bif !((a.getD i.toNat (0, 0, 0, 0, ())).fst == (b.getD i.toNat (0, 0, 0, 0, ())).fst && ((a.getD i.toNat (0, 0, 0, 0, ())).snd.fst == (b.getD i.toNat (0, 0, 0, 0, ())).snd.fst && ((a.getD i.toNat (0, 0, 0, 0, ())).snd.snd.fst == (b.getD i.toNat (0, 0, 0, 0, ())).snd.snd.fst && ((a.getD i.toNat (0, 0, 0, 0, ())).snd.snd.snd.fst == (b.getD i.toNat (0, 0, 0, 0, ())).snd.snd.snd.fst && true)))) then
          some ((false, ()))
        else
          g0 (IntKind.i64.wrap (i + 1))
      else
        none
    else
      none
  else
    some ((true, ()))
def ref_Terms_p (nf : Nat) (l0 : List (Int × Int × Int × Int × Unit) → List (Int × Int × Int × Int × Unit) → Int → Option (Bool × Unit)) (a : List (Int × Int × Int × Int × Unit)) (b : List (Int × Int × Int × Int × Unit)) : Option (Bool × Unit) :=
  bif (↑a.length : Int) != (↑b.length : Int) then
    some ((false, ()))
  else
    l0 a b 0
def ref_Terms_l0 (nf : Nat) (a : List (Int × Int × Int × Int × Unit)) (b : List (Int × Int × Int × Int × Unit)) : Nat → Int → Option (Bool × Unit)
  | 0, _ => none
  | fu + 1, i => ref_Terms_b0 nf  a b  (ref_Terms_l0 nf a b  fu) i
def ref_Terms_f (nf : Nat) (a : List (Int × Int × Int × Int × Unit)) (b : List (Int × Int × Int × Int × Unit)) : Option (Bool × Unit) := ref_Terms_p nf (fun p0 p1 v0 => ref_Terms_l0 nf p0 p1 nf v0) a b
noncomputable def ref_Terms_L0 (nf : Nat) : LC (Bool × Unit) := theL (findL tab (ref_Terms_phi nf) (fun _ F => iter nf F) ref_Terms_keep 0 0 (codeOf Try.f48) (fin tab [(Ty.bool, Md.bor false true)] (resL ([]) Try.f48)) (fun _ _ => none) (fin tab [(Ty.bool, Md.bor false true)] (resL ([]) Try.f48)))
def ref_Terms_m0 (a : List (Int × Int × Int × Int × Unit)) (b : List (Int × Int × Int × Int × Unit)) (i : Int) : St := ⟨fresh, [(0, AV.v ((Ty.int IntKind.i64).pair ((Ty.int IntKind.i64).pair ((Ty.int IntKind.i64).pair ((Ty.int IntKind.i64).pair Ty.unit)))).sl (Md.bor true false) a), (1, AV.v ((Ty.int IntKind.i64).pair ((Ty.int IntKind.i64).pair ((Ty.int IntKind.i64).pair ((Ty.int IntKind.i64).pair Ty.unit)))).sl (Md.bor true false) b), (5, AV.v (Ty.int IntKind.i64) (Md.bor false true) i)]⟩
theorem ref_Terms_h0 (nf : Nat)  (a : List (Int × Int × Int × Int × Unit)) (b : List (Int × Int × Int × Int × Unit)) (fu : Nat) (i : Int) : iter (fu + 1) (LC.F tab (ref_Terms_phi nf) (fun _ F => iter nf F) ref_Terms_keep 0 (ref_Terms_L0 nf )) (ref_Terms_m0 a b i) = ref_Terms_b0 nf  a b  (fun i => iter fu (LC.F tab (ref_Terms_phi nf) (fun _ F => iter nf F) ref_Terms_keep 0 (ref_Terms_L0 nf )) (ref_Terms_m0 a b i)) i := by kernel_rfl
theorem ref_Terms_e0 (nf : Nat)  (a : List (Int × Int × Int × Int × Unit)) (b : List (Int × Int × Int × Int × Unit)) : ∀ (fu : Nat) (i : Int), iter fu (LC.F tab (ref_Terms_phi nf) (fun _ F => iter nf F) ref_Terms_keep 0 (ref_Terms_L0 nf )) (ref_Terms_m0 a b i) = ref_Terms_l0 nf a b  fu i := by
  intro fu
  induction fu with
  | zero => intros; rfl
  | succ fu ih =>
    intro i
    rw [ref_Terms_h0 nf  a b fu i]
    simp only [ih]
    rfl
theorem ref_Terms_eq (nf : Nat) (a : List (Int × Int × Int × Int × Unit)) (b : List (Int × Int × Int × Int × Unit)) : runF tab (ref_Terms_phi nf) ref_Terms_keep nf [PT.val ((Ty.int IntKind.i64).pair ((Ty.int IntKind.i64).pair ((Ty.int IntKind.i64).pair ((Ty.int IntKind.i64).pair Ty.unit)))).sl (Md.bor true false), PT.val ((Ty.int IntKind.i64).pair ((Ty.int IntKind.i64).pair ((Ty.int IntKind.i64).pair ((Ty.int IntKind.i64).pair Ty.unit)))).sl (Md.bor true false)] [(Ty.bool, Md.bor false true)] (resL ([]) Try.f48) (codeOf Try.f48) ⟨a, b, ()⟩ = ref_Terms_f nf a b := by
  have h : runF tab (ref_Terms_phi nf) ref_Terms_keep nf [PT.val ((Ty.int IntKind.i64).pair ((Ty.int IntKind.i64).pair ((Ty.int IntKind.i64).pair ((Ty.int IntKind.i64).pair Ty.unit)))).sl (Md.bor true false), PT.val ((Ty.int IntKind.i64).pair ((Ty.int IntKind.i64).pair ((Ty.int IntKind.i64).pair ((Ty.int IntKind.i64).pair Ty.unit)))).sl (Md.bor true false)] [(Ty.bool, Md.bor false true)] (resL ([]) Try.f48) (codeOf Try.f48) ⟨a, b, ()⟩ = ref_Terms_p nf (fun p0 p1 v0 => iter nf (LC.F tab (ref_Terms_phi nf) (fun _ F => iter nf F) ref_Terms_keep 0 (ref_Terms_L0 nf)) (ref_Terms_m0 p0 p1 v0)) a b := by kernel_rfl
  rw [h]
  simp only [ref_Terms_e0]
  rfl
def ref_Terms_F (nf : Nat) (x : denPs [.val (.sl (.pair (.int .i64) (.pair (.int .i64) (.pair (.int .i64) (.pair (.int .i64) (.unit)))))) (.bor true false), .val (.sl (.pair (.int .i64) (.pair (.int .i64) (.pair (.int .i64) (.pair (.int .i64) (.unit)))))) (.bor true false)]) : Option (denL [(.bool, .bor false true)]) := ref_Terms_f nf x.1 x.2.1
def ref_Terms_C (nf : Nat) : Contract := ⟨[.val (.sl (.pair (.int .i64) (.pair (.int .i64) (.pair (.int .i64) (.pair (.int .i64) (.unit)))))) (.bor true false), .val (.sl (.pair (.int .i64) (.pair (.int .i64) (.pair (.int .i64) (.pair (.int .i64) (.unit)))))) (.bor true false)], [(.bool, .bor false true)], ref_Terms_F nf, []⟩
theorem ref_Terms_ok : FnOK Try.prog 48 := ⟨Try.f48, codeOf Try.f48, Try.func48, by kernel_rfl, by kernel_rfl⟩
theorem ref_Terms_holds (nf : Nat) : Contract.Holds Try.prog 48 (ref_Terms_C nf) :=
  fn_holds (Φ := ref_Terms_phi nf) (keep := ref_Terms_keep) (n := nf) ⟨tabs.1, tabs.2, ctx_nil, mixed, bk_ok bkls rfl⟩ (fn := Try.f48) ⟨Try.func48, by kernel_rfl, by kernel_rfl, by kernel_rfl⟩ (fun x => ref_Terms_eq nf x.1 x.2.1)

/-! codemason value.numbers -/
def value_numbers_phi (nf : Nat) : Nat → Option Contract := lookC []
def value_numbers_keep : Nat → List Nat := lookK [(0, [0, 4, 5, 6, 12, 13, 14, 15, 76, 80])]
def value_numbers_b0 (nf : Nat) (l' : List (Int × Int × Int × Int × Unit)) (g0 : List ((Int × Int × Int × Int × Unit) × Int) → List Int → List (Int × Int × Int × Int × Unit) → Int → Option (List Int × List (Int × Int × Int × Int × Unit) × Unit)) (known : List ((Int × Int × Int × Int × Unit) × Int)) (first : List Int) (own : List (Int × Int × Int × Int × Unit)) (t15 : Int) : Option (List Int × List (Int × Int × Int × Int × Unit) × Unit) :=
  bif decide (t15 < (↑l'.length : Int)) then
    bif inb t15 l'.length then
      bif decide ((l'.getD t15.toNat (0, 0, 0, 0, ())).fst > 2) then
        bif inb (l'.getD t15.toNat (0, 0, 0, 0, ())).snd.fst first.length then
          bif inb (l'.getD t15.toNat (0, 0, 0, 0, ())).snd.snd.fst first.length then
            bif (l'.getD t15.toNat (0, 0, 0, 0, ())).fst == 3 then
              bif !(getM ((Ty.int IntKind.i64).pair ((Ty.int IntKind.i64).pair ((Ty.int IntKind.i64).pair ((Ty.int IntKind.i64).pair Ty.unit)))) (Ty.int IntKind.i64) known ((l'.getD t15.toNat (0, 0, 0, 0, ())).fst, if first.getD (Int.toNat (l'.getD t15.toNat (0, 0, 0, 0, ())).snd.snd.fst) 0 < first.getD (Int.toNat (l'.getD t15.toNat (0, 0, 0, 0, ())).snd.fst) 0 then first.getD (Int.toNat (l'.getD t15.toNat (0, 0, 0, 0, ())).snd.snd.fst) 0 else first.getD (Int.toNat (l'.getD t15.toNat (0, 0, 0, 0, ())).snd.fst) 0, if first.getD (Int.toNat (l'.getD t15.toNat (0, 0, 0, 0, ())).snd.snd.fst) 0 > first.getD (Int.toNat (l'.getD t15.toNat (0, 0, 0, 0, ())).snd.fst) 0 then first.getD (Int.toNat (l'.getD t15.toNat (0, 0, 0, 0, ())).snd.snd.fst) 0 else first.getD (Int.toNat (l'.getD t15.toNat (0, 0, 0, 0, ())).snd.fst) 0, 0, ())).isSome then
                both (both (bif bimp false ![t15].isEmpty && (first.length + [t15].length).ble lim then
                  bif bimp false ![((l'.getD t15.toNat (0, 0, 0, 0, ())).fst, if first.getD (Int.toNat (l'.getD t15.toNat (0, 0, 0, 0, ())).snd.snd.fst) 0 < first.getD (Int.toNat (l'.getD t15.toNat (0, 0, 0, 0, ())).snd.fst) 0 then first.getD (Int.toNat (l'.getD t15.toNat (0, 0, 0, 0, ())).snd.snd.fst) 0 else first.getD (Int.toNat (l'.getD t15.toNat (0, 0, 0, 0, ())).snd.fst) 0, if first.getD (Int.toNat (l'.getD t15.toNat (0, 0, 0, 0, ())).snd.snd.fst) 0 > first.getD (Int.toNat (l'.getD t15.toNat (0, 0, 0, 0, ())).snd.fst) 0 then first.getD (Int.toNat (l'.getD t15.toNat (0, 0, 0, 0, ())).snd.snd.fst) 0 else first.getD (Int.toNat (l'.getD t15.toNat (0, 0, 0, 0, ())).snd.fst) 0, 0, ())].isEmpty && (own.length + [((l'.getD t15.toNat (0, 0, 0, 0, ())).fst, if first.getD (Int.toNat (l'.getD t15.toNat (0, 0, 0, 0, ())).snd.snd.fst) 0 < first.getD (Int.toNat (l'.getD t15.toNat (0, 0, 0, 0, ())).snd.fst) 0 then first.getD (Int.toNat (l'.getD t15.toNat (0, 0, 0, 0, ())).snd.snd.fst) 0 else first.getD (Int.toNat (l'.getD t15.toNat (0, 0, 0, 0, ())).snd.fst) 0, if first.getD (Int.toNat (l'.getD t15.toNat (0, 0, 0, 0, ())).snd.snd.fst) 0 > first.getD (Int.toNat (l'.getD t15.toNat (0, 0, 0, 0, ())).snd.fst) 0 then first.getD (Int.toNat (l'.getD t15.toNat (0, 0, 0, 0, ())).snd.snd.fst) 0 else first.getD (Int.toNat (l'.getD t15.toNat (0, 0, 0, 0, ())).snd.fst) 0, 0, ())].length).ble lim then
                    g0 (insM ((Ty.int IntKind.i64).pair ((Ty.int IntKind.i64).pair ((Ty.int IntKind.i64).pair ((Ty.int IntKind.i64).pair Ty.unit)))) (Ty.int IntKind.i64) known ((l'.getD t15.toNat (0, 0, 0, 0, ())).fst, if first.getD (Int.toNat (l'.getD t15.toNat (0, 0, 0, 0, ())).snd.snd.fst) 0 < first.getD (Int.toNat (l'.getD t15.toNat (0, 0, 0, 0, ())).snd.fst) 0 then first.getD (Int.toNat (l'.getD t15.toNat (0, 0, 0, 0, ())).snd.snd.fst) 0 else first.getD (Int.toNat (l'.getD t15.toNat (0, 0, 0, 0, ())).snd.fst) 0, if first.getD (Int.toNat (l'.getD t15.toNat (0, 0, 0, 0, ())).snd.snd.fst) 0 > first.getD (Int.toNat (l'.getD t15.toNat (0, 0, 0, 0, ())).snd.fst) 0 then first.getD (Int.toNat (l'.getD t15.toNat (0, 0, 0, 0, ())).snd.snd.fst) 0 else first.getD (Int.toNat (l'.getD t15.toNat (0, 0, 0, 0, ())).snd.fst) 0, 0, ()) t15) (first ++ [t15]) (own ++ [((l'.getD t15.toNat (0, 0, 0, 0, ())).fst, if first.getD (Int.toNat (l'.getD t15.toNat (0, 0, 0, 0, ())).snd.snd.fst) 0 < first.getD (Int.toNat (l'.getD t15.toNat (0, 0, 0, 0, ())).snd.fst) 0 then first.getD (Int.toNat (l'.getD t15.toNat (0, 0, 0, 0, ())).snd.snd.fst) 0 else first.getD (Int.toNat (l'.getD t15.toNat (0, 0, 0, 0, ())).snd.fst) 0, if first.getD (Int.toNat (l'.getD t15.toNat (0, 0, 0, 0, ())).snd.snd.fst) 0 > first.getD (Int.toNat (l'.getD t15.toNat (0, 0, 0, 0, ())).snd.fst) 0 then first.getD (Int.toNat (l'.getD t15.toNat (0, 0, 0, 0, ())).snd.snd.fst) 0 else first.getD (Int.toNat (l'.getD t15.toNat (0, 0, 0, 0, ())).snd.fst) 0, 0, ())]) (IntKind.i64.wrap (t15 + 1))
                  else
                    none
                else
                  none) (bif bimp false ![t15].isEmpty && (first.length + [t15].length).ble lim then
                  bif bimp false ![((l'.getD t15.toNat (0, 0, 0, 0, ())).fst, if first.getD (Int.toNat (l'.getD t15.toNat (0, 0, 0, 0, ())).snd.snd.fst) 0 < first.getD (Int.toNat (l'.getD t15.toNat (0, 0, 0, 0, ())).snd.fst) 0 then first.getD (Int.toNat (l'.getD t15.toNat (0, 0, 0, 0, ())).snd.snd.fst) 0 else first.getD (Int.toNat (l'.getD t15.toNat (0, 0, 0, 0, ())).snd.fst) 0, if first.getD (Int.toNat (l'.getD t15.toNat (0, 0, 0, 0, ())).snd.snd.fst) 0 > first.getD (Int.toNat (l'.getD t15.toNat (0, 0, 0, 0, ())).snd.fst) 0 then first.getD (Int.toNat (l'.getD t15.toNat (0, 0, 0, 0, ())).snd.snd.fst) 0 else first.getD (Int.toNat (l'.getD t15.toNat (0, 0, 0, 0, ())).snd.fst) 0, 0, ())].isEmpty && (own.length + [((l'.getD t15.toNat (0, 0, 0, 0, ())).fst, if first.getD (Int.toNat (l'.getD t15.toNat (0, 0, 0, 0, ())).snd.snd.fst) 0 < first.getD (Int.toNat (l'.getD t15.toNat (0, 0, 0, 0, ())).snd.fst) 0 then first.getD (Int.toNat (l'.getD t15.toNat (0, 0, 0, 0, ())).snd.snd.fst) 0 else first.getD (Int.toNat (l'.getD t15.toNat (0, 0, 0, 0, ())).snd.fst) 0, if first.getD (Int.toNat (l'.getD t15.toNat (0, 0, 0, 0, ())).snd.snd.fst) 0 > first.getD (Int.toNat (l'.getD t15.toNat (0, 0, 0, 0, ())).snd.fst) 0 then first.getD (Int.toNat (l'.getD t15.toNat (0, 0, 0, 0, ())).snd.snd.fst) 0 else first.getD (Int.toNat (l'.getD t15.toNat (0, 0, 0, 0, ())).snd.fst) 0, 0, ())].length).ble lim then
                    g0 (insM ((Ty.int IntKind.i64).pair ((Ty.int IntKind.i64).pair ((Ty.int IntKind.i64).pair ((Ty.int IntKind.i64).pair Ty.unit)))) (Ty.int IntKind.i64) known ((l'.getD t15.toNat (0, 0, 0, 0, ())).fst, if first.getD (Int.toNat (l'.getD t15.toNat (0, 0, 0, 0, ())).snd.snd.fst) 0 < first.getD (Int.toNat (l'.getD t15.toNat (0, 0, 0, 0, ())).snd.fst) 0 then first.getD (Int.toNat (l'.getD t15.toNat (0, 0, 0, 0, ())).snd.snd.fst) 0 else first.getD (Int.toNat (l'.getD t15.toNat (0, 0, 0, 0, ())).snd.fst) 0, if first.getD (Int.toNat (l'.getD t15.toNat (0, 0, 0, 0, ())).snd.snd.fst) 0 > first.getD (Int.toNat (l'.getD t15.toNat (0, 0, 0, 0, ())).snd.fst) 0 then first.getD (Int.toNat (l'.getD t15.toNat (0, 0, 0, 0, ())).snd.snd.fst) 0 else first.getD (Int.toNat (l'.getD t15.toNat (0, 0, 0, 0, ())).snd.fst) 0, 0, ()) t15) (first ++ [t15]) (own ++ [((l'.getD t15.toNat (0, 0, 0, 0, ())).fst, if first.getD (Int.toNat (l'.getD t15.toNat (0, 0, 0, 0, ())).snd.snd.fst) 0 < first.getD (Int.toNat (l'.getD t15.toNat (0, 0, 0, 0, ())).snd.fst) 0 then first.getD (Int.toNat (l'.getD t15.toNat (0, 0, 0, 0, ())).snd.snd.fst) 0 else first.getD (Int.toNat (l'.getD t15.toNat (0, 0, 0, 0, ())).snd.fst) 0, if first.getD (Int.toNat (l'.getD t15.toNat (0, 0, 0, 0, ())).snd.snd.fst) 0 > first.getD (Int.toNat (l'.getD t15.toNat (0, 0, 0, 0, ())).snd.fst) 0 then first.getD (Int.toNat (l'.getD t15.toNat (0, 0, 0, 0, ())).snd.snd.fst) 0 else first.getD (Int.toNat (l'.getD t15.toNat (0, 0, 0, 0, ())).snd.fst) 0, 0, ())]) (IntKind.i64.wrap (t15 + 1))
                  else
                    none
                else
                  none)) (bif bimp false ![t15].isEmpty && (first.length + [t15].length).ble lim then
                  bif bimp false ![((l'.getD t15.toNat (0, 0, 0, 0, ())).fst, if first.getD (Int.toNat (l'.getD t15.toNat (0, 0, 0, 0, ())).snd.snd.fst) 0 < first.getD (Int.toNat (l'.getD t15.toNat (0, 0, 0, 0, ())).snd.fst) 0 then first.getD (Int.toNat (l'.getD t15.toNat (0, 0, 0, 0, ())).snd.snd.fst) 0 else first.getD (Int.toNat (l'.getD t15.toNat (0, 0, 0, 0, ())).snd.fst) 0, if first.getD (Int.toNat (l'.getD t15.toNat (0, 0, 0, 0, ())).snd.snd.fst) 0 > first.getD (Int.toNat (l'.getD t15.toNat (0, 0, 0, 0, ())).snd.fst) 0 then first.getD (Int.toNat (l'.getD t15.toNat (0, 0, 0, 0, ())).snd.snd.fst) 0 else first.getD (Int.toNat (l'.getD t15.toNat (0, 0, 0, 0, ())).snd.fst) 0, 0, ())].isEmpty && (own.length + [((l'.getD t15.toNat (0, 0, 0, 0, ())).fst, if first.getD (Int.toNat (l'.getD t15.toNat (0, 0, 0, 0, ())).snd.snd.fst) 0 < first.getD (Int.toNat (l'.getD t15.toNat (0, 0, 0, 0, ())).snd.fst) 0 then first.getD (Int.toNat (l'.getD t15.toNat (0, 0, 0, 0, ())).snd.snd.fst) 0 else first.getD (Int.toNat (l'.getD t15.toNat (0, 0, 0, 0, ())).snd.fst) 0, if first.getD (Int.toNat (l'.getD t15.toNat (0, 0, 0, 0, ())).snd.snd.fst) 0 > first.getD (Int.toNat (l'.getD t15.toNat (0, 0, 0, 0, ())).snd.fst) 0 then first.getD (Int.toNat (l'.getD t15.toNat (0, 0, 0, 0, ())).snd.snd.fst) 0 else first.getD (Int.toNat (l'.getD t15.toNat (0, 0, 0, 0, ())).snd.fst) 0, 0, ())].length).ble lim then
                    g0 (insM ((Ty.int IntKind.i64).pair ((Ty.int IntKind.i64).pair ((Ty.int IntKind.i64).pair ((Ty.int IntKind.i64).pair Ty.unit)))) (Ty.int IntKind.i64) known ((l'.getD t15.toNat (0, 0, 0, 0, ())).fst, if first.getD (Int.toNat (l'.getD t15.toNat (0, 0, 0, 0, ())).snd.snd.fst) 0 < first.getD (Int.toNat (l'.getD t15.toNat (0, 0, 0, 0, ())).snd.fst) 0 then first.getD (Int.toNat (l'.getD t15.toNat (0, 0, 0, 0, ())).snd.snd.fst) 0 else first.getD (Int.toNat (l'.getD t15.toNat (0, 0, 0, 0, ())).snd.fst) 0, if first.getD (Int.toNat (l'.getD t15.toNat (0, 0, 0, 0, ())).snd.snd.fst) 0 > first.getD (Int.toNat (l'.getD t15.toNat (0, 0, 0, 0, ())).snd.fst) 0 then first.getD (Int.toNat (l'.getD t15.toNat (0, 0, 0, 0, ())).snd.snd.fst) 0 else first.getD (Int.toNat (l'.getD t15.toNat (0, 0, 0, 0, ())).snd.fst) 0, 0, ()) t15) (first ++ [t15]) (own ++ [((l'.getD t15.toNat (0, 0, 0, 0, ())).fst, if first.getD (Int.toNat (l'.getD t15.toNat (0, 0, 0, 0, ())).snd.snd.fst) 0 < first.getD (Int.toNat (l'.getD t15.toNat (0, 0, 0, 0, ())).snd.fst) 0 then first.getD (Int.toNat (l'.getD t15.toNat (0, 0, 0, 0, ())).snd.snd.fst) 0 else first.getD (Int.toNat (l'.getD t15.toNat (0, 0, 0, 0, ())).snd.fst) 0, if first.getD (Int.toNat (l'.getD t15.toNat (0, 0, 0, 0, ())).snd.snd.fst) 0 > first.getD (Int.toNat (l'.getD t15.toNat (0, 0, 0, 0, ())).snd.fst) 0 then first.getD (Int.toNat (l'.getD t15.toNat (0, 0, 0, 0, ())).snd.snd.fst) 0 else first.getD (Int.toNat (l'.getD t15.toNat (0, 0, 0, 0, ())).snd.fst) 0, 0, ())]) (IntKind.i64.wrap (t15 + 1))
                  else
                    none
                else
                  none)
              else
                both (both (bif bimp false ![(getM ((Ty.int IntKind.i64).pair ((Ty.int IntKind.i64).pair ((Ty.int IntKind.i64).pair ((Ty.int IntKind.i64).pair Ty.unit)))) (Ty.int IntKind.i64) known ((l'.getD t15.toNat (0, 0, 0, 0, ())).fst, if first.getD (Int.toNat (l'.getD t15.toNat (0, 0, 0, 0, ())).snd.snd.fst) 0 < first.getD (Int.toNat (l'.getD t15.toNat (0, 0, 0, 0, ())).snd.fst) 0 then first.getD (Int.toNat (l'.getD t15.toNat (0, 0, 0, 0, ())).snd.snd.fst) 0 else first.getD (Int.toNat (l'.getD t15.toNat (0, 0, 0, 0, ())).snd.fst) 0, if first.getD (Int.toNat (l'.getD t15.toNat (0, 0, 0, 0, ())).snd.snd.fst) 0 > first.getD (Int.toNat (l'.getD t15.toNat (0, 0, 0, 0, ())).snd.fst) 0 then first.getD (Int.toNat (l'.getD t15.toNat (0, 0, 0, 0, ())).snd.snd.fst) 0 else first.getD (Int.toNat (l'.getD t15.toNat (0, 0, 0, 0, ())).snd.fst) 0, 0, ())).getD 0].isEmpty && (first.length + [(getM ((Ty.int IntKind.i64).pair ((Ty.int IntKind.i64).pair ((Ty.int IntKind.i64).pair ((Ty.int IntKind.i64).pair Ty.unit)))) (Ty.int IntKind.i64) known ((l'.getD t15.toNat (0, 0, 0, 0, ())).fst, if first.getD (Int.toNat (l'.getD t15.toNat (0, 0, 0, 0, ())).snd.snd.fst) 0 < first.getD (Int.toNat (l'.getD t15.toNat (0, 0, 0, 0, ())).snd.fst) 0 then first.getD (Int.toNat (l'.getD t15.toNat (0, 0, 0, 0, ())).snd.snd.fst) 0 else first.getD (Int.toNat (l'.getD t15.toNat (0, 0, 0, 0, ())).snd.fst) 0, if first.getD (Int.toNat (l'.getD t15.toNat (0, 0, 0, 0, ())).snd.snd.fst) 0 > first.getD (Int.toNat (l'.getD t15.toNat (0, 0, 0, 0, ())).snd.fst) 0 then first.getD (Int.toNat (l'.getD t15.toNat (0, 0, 0, 0, ())).snd.snd.fst) 0 else first.getD (Int.toNat (l'.getD t15.toNat (0, 0, 0, 0, ())).snd.fst) 0, 0, ())).getD 0].length).ble lim then
                  bif bimp false ![((l'.getD t15.toNat (0, 0, 0, 0, ())).fst, if first.getD (Int.toNat (l'.getD t15.toNat (0, 0, 0, 0, ())).snd.snd.fst) 0 < first.getD (Int.toNat (l'.getD t15.toNat (0, 0, 0, 0, ())).snd.fst) 0 then first.getD (Int.toNat (l'.getD t15.toNat (0, 0, 0, 0, ())).snd.snd.fst) 0 else first.getD (Int.toNat (l'.getD t15.toNat (0, 0, 0, 0, ())).snd.fst) 0, if first.getD (Int.toNat (l'.getD t15.toNat (0, 0, 0, 0, ())).snd.snd.fst) 0 > first.getD (Int.toNat (l'.getD t15.toNat (0, 0, 0, 0, ())).snd.fst) 0 then first.getD (Int.toNat (l'.getD t15.toNat (0, 0, 0, 0, ())).snd.snd.fst) 0 else first.getD (Int.toNat (l'.getD t15.toNat (0, 0, 0, 0, ())).snd.fst) 0, 0, ())].isEmpty && (own.length + [((l'.getD t15.toNat (0, 0, 0, 0, ())).fst, if first.getD (Int.toNat (l'.getD t15.toNat (0, 0, 0, 0, ())).snd.snd.fst) 0 < first.getD (Int.toNat (l'.getD t15.toNat (0, 0, 0, 0, ())).snd.fst) 0 then first.getD (Int.toNat (l'.getD t15.toNat (0, 0, 0, 0, ())).snd.snd.fst) 0 else first.getD (Int.toNat (l'.getD t15.toNat (0, 0, 0, 0, ())).snd.fst) 0, if first.getD (Int.toNat (l'.getD t15.toNat (0, 0, 0, 0, ())).snd.snd.fst) 0 > first.getD (Int.toNat (l'.getD t15.toNat (0, 0, 0, 0, ())).snd.fst) 0 then first.getD (Int.toNat (l'.getD t15.toNat (0, 0, 0, 0, ())).snd.snd.fst) 0 else first.getD (Int.toNat (l'.getD t15.toNat (0, 0, 0, 0, ())).snd.fst) 0, 0, ())].length).ble lim then
                    g0 known (first ++ [(getM ((Ty.int IntKind.i64).pair ((Ty.int IntKind.i64).pair ((Ty.int IntKind.i64).pair ((Ty.int IntKind.i64).pair Ty.unit)))) (Ty.int IntKind.i64) known ((l'.getD t15.toNat (0, 0, 0, 0, ())).fst, if first.getD (Int.toNat (l'.getD t15.toNat (0, 0, 0, 0, ())).snd.snd.fst) 0 < first.getD (Int.toNat (l'.getD t15.toNat (0, 0, 0, 0, ())).snd.fst) 0 then first.getD (Int.toNat (l'.getD t15.toNat (0, 0, 0, 0, ())).snd.snd.fst) 0 else first.getD (Int.toNat (l'.getD t15.toNat (0, 0, 0, 0, ())).snd.fst) 0, if first.getD (Int.toNat (l'.getD t15.toNat (0, 0, 0, 0, ())).snd.snd.fst) 0 > first.getD (Int.toNat (l'.getD t15.toNat (0, 0, 0, 0, ())).snd.fst) 0 then first.getD (Int.toNat (l'.getD t15.toNat (0, 0, 0, 0, ())).snd.snd.fst) 0 else first.getD (Int.toNat (l'.getD t15.toNat (0, 0, 0, 0, ())).snd.fst) 0, 0, ())).getD 0]) (own ++ [((l'.getD t15.toNat (0, 0, 0, 0, ())).fst, if first.getD (Int.toNat (l'.getD t15.toNat (0, 0, 0, 0, ())).snd.snd.fst) 0 < first.getD (Int.toNat (l'.getD t15.toNat (0, 0, 0, 0, ())).snd.fst) 0 then first.getD (Int.toNat (l'.getD t15.toNat (0, 0, 0, 0, ())).snd.snd.fst) 0 else first.getD (Int.toNat (l'.getD t15.toNat (0, 0, 0, 0, ())).snd.fst) 0, if first.getD (Int.toNat (l'.getD t15.toNat (0, 0, 0, 0, ())).snd.snd.fst) 0 > first.getD (Int.toNat (l'.getD t15.toNat (0, 0, 0, 0, ())).snd.fst) 0 then first.getD (Int.toNat (l'.getD t15.toNat (0, 0, 0, 0, ())).snd.snd.fst) 0 else first.getD (Int.toNat (l'.getD t15.toNat (0, 0, 0, 0, ())).snd.fst) 0, 0, ())]) (IntKind.i64.wrap (t15 + 1))
                  else
                    none
                else
                  none) (bif bimp false ![(getM ((Ty.int IntKind.i64).pair ((Ty.int IntKind.i64).pair ((Ty.int IntKind.i64).pair ((Ty.int IntKind.i64).pair Ty.unit)))) (Ty.int IntKind.i64) known ((l'.getD t15.toNat (0, 0, 0, 0, ())).fst, if first.getD (Int.toNat (l'.getD t15.toNat (0, 0, 0, 0, ())).snd.snd.fst) 0 < first.getD (Int.toNat (l'.getD t15.toNat (0, 0, 0, 0, ())).snd.fst) 0 then first.getD (Int.toNat (l'.getD t15.toNat (0, 0, 0, 0, ())).snd.snd.fst) 0 else first.getD (Int.toNat (l'.getD t15.toNat (0, 0, 0, 0, ())).snd.fst) 0, if first.getD (Int.toNat (l'.getD t15.toNat (0, 0, 0, 0, ())).snd.snd.fst) 0 > first.getD (Int.toNat (l'.getD t15.toNat (0, 0, 0, 0, ())).snd.fst) 0 then first.getD (Int.toNat (l'.getD t15.toNat (0, 0, 0, 0, ())).snd.snd.fst) 0 else first.getD (Int.toNat (l'.getD t15.toNat (0, 0, 0, 0, ())).snd.fst) 0, 0, ())).getD 0].isEmpty && (first.length + [(getM ((Ty.int IntKind.i64).pair ((Ty.int IntKind.i64).pair ((Ty.int IntKind.i64).pair ((Ty.int IntKind.i64).pair Ty.unit)))) (Ty.int IntKind.i64) known ((l'.getD t15.toNat (0, 0, 0, 0, ())).fst, if first.getD (Int.toNat (l'.getD t15.toNat (0, 0, 0, 0, ())).snd.snd.fst) 0 < first.getD (Int.toNat (l'.getD t15.toNat (0, 0, 0, 0, ())).snd.fst) 0 then first.getD (Int.toNat (l'.getD t15.toNat (0, 0, 0, 0, ())).snd.snd.fst) 0 else first.getD (Int.toNat (l'.getD t15.toNat (0, 0, 0, 0, ())).snd.fst) 0, if first.getD (Int.toNat (l'.getD t15.toNat (0, 0, 0, 0, ())).snd.snd.fst) 0 > first.getD (Int.toNat (l'.getD t15.toNat (0, 0, 0, 0, ())).snd.fst) 0 then first.getD (Int.toNat (l'.getD t15.toNat (0, 0, 0, 0, ())).snd.snd.fst) 0 else first.getD (Int.toNat (l'.getD t15.toNat (0, 0, 0, 0, ())).snd.fst) 0, 0, ())).getD 0].length).ble lim then
                  bif bimp false ![((l'.getD t15.toNat (0, 0, 0, 0, ())).fst, if first.getD (Int.toNat (l'.getD t15.toNat (0, 0, 0, 0, ())).snd.snd.fst) 0 < first.getD (Int.toNat (l'.getD t15.toNat (0, 0, 0, 0, ())).snd.fst) 0 then first.getD (Int.toNat (l'.getD t15.toNat (0, 0, 0, 0, ())).snd.snd.fst) 0 else first.getD (Int.toNat (l'.getD t15.toNat (0, 0, 0, 0, ())).snd.fst) 0, if first.getD (Int.toNat (l'.getD t15.toNat (0, 0, 0, 0, ())).snd.snd.fst) 0 > first.getD (Int.toNat (l'.getD t15.toNat (0, 0, 0, 0, ())).snd.fst) 0 then first.getD (Int.toNat (l'.getD t15.toNat (0, 0, 0, 0, ())).snd.snd.fst) 0 else first.getD (Int.toNat (l'.getD t15.toNat (0, 0, 0, 0, ())).snd.fst) 0, 0, ())].isEmpty && (own.length + [((l'.getD t15.toNat (0, 0, 0, 0, ())).fst, if first.getD (Int.toNat (l'.getD t15.toNat (0, 0, 0, 0, ())).snd.snd.fst) 0 < first.getD (Int.toNat (l'.getD t15.toNat (0, 0, 0, 0, ())).snd.fst) 0 then first.getD (Int.toNat (l'.getD t15.toNat (0, 0, 0, 0, ())).snd.snd.fst) 0 else first.getD (Int.toNat (l'.getD t15.toNat (0, 0, 0, 0, ())).snd.fst) 0, if first.getD (Int.toNat (l'.getD t15.toNat (0, 0, 0, 0, ())).snd.snd.fst) 0 > first.getD (Int.toNat (l'.getD t15.toNat (0, 0, 0, 0, ())).snd.fst) 0 then first.getD (Int.toNat (l'.getD t15.toNat (0, 0, 0, 0, ())).snd.snd.fst) 0 else first.getD (Int.toNat (l'.getD t15.toNat (0, 0, 0, 0, ())).snd.fst) 0, 0, ())].length).ble lim then
                    g0 known (first ++ [(getM ((Ty.int IntKind.i64).pair ((Ty.int IntKind.i64).pair ((Ty.int IntKind.i64).pair ((Ty.int IntKind.i64).pair Ty.unit)))) (Ty.int IntKind.i64) known ((l'.getD t15.toNat (0, 0, 0, 0, ())).fst, if first.getD (Int.toNat (l'.getD t15.toNat (0, 0, 0, 0, ())).snd.snd.fst) 0 < first.getD (Int.toNat (l'.getD t15.toNat (0, 0, 0, 0, ())).snd.fst) 0 then first.getD (Int.toNat (l'.getD t15.toNat (0, 0, 0, 0, ())).snd.snd.fst) 0 else first.getD (Int.toNat (l'.getD t15.toNat (0, 0, 0, 0, ())).snd.fst) 0, if first.getD (Int.toNat (l'.getD t15.toNat (0, 0, 0, 0, ())).snd.snd.fst) 0 > first.getD (Int.toNat (l'.getD t15.toNat (0, 0, 0, 0, ())).snd.fst) 0 then first.getD (Int.toNat (l'.getD t15.toNat (0, 0, 0, 0, ())).snd.snd.fst) 0 else first.getD (Int.toNat (l'.getD t15.toNat (0, 0, 0, 0, ())).snd.fst) 0, 0, ())).getD 0]) (own ++ [((l'.getD t15.toNat (0, 0, 0, 0, ())).fst, if first.getD (Int.toNat (l'.getD t15.toNat (0, 0, 0, 0, ())).snd.snd.fst) 0 < first.getD (Int.toNat (l'.getD t15.toNat (0, 0, 0, 0, ())).snd.fst) 0 then first.getD (Int.toNat (l'.getD t15.toNat (0, 0, 0, 0, ())).snd.snd.fst) 0 else first.getD (Int.toNat (l'.getD t15.toNat (0, 0, 0, 0, ())).snd.fst) 0, if first.getD (Int.toNat (l'.getD t15.toNat (0, 0, 0, 0, ())).snd.snd.fst) 0 > first.getD (Int.toNat (l'.getD t15.toNat (0, 0, 0, 0, ())).snd.fst) 0 then first.getD (Int.toNat (l'.getD t15.toNat (0, 0, 0, 0, ())).snd.snd.fst) 0 else first.getD (Int.toNat (l'.getD t15.toNat (0, 0, 0, 0, ())).snd.fst) 0, 0, ())]) (IntKind.i64.wrap (t15 + 1))
                  else
                    none
                else
                  none)) (bif bimp false ![(getM ((Ty.int IntKind.i64).pair ((Ty.int IntKind.i64).pair ((Ty.int IntKind.i64).pair ((Ty.int IntKind.i64).pair Ty.unit)))) (Ty.int IntKind.i64) known ((l'.getD t15.toNat (0, 0, 0, 0, ())).fst, if first.getD (Int.toNat (l'.getD t15.toNat (0, 0, 0, 0, ())).snd.snd.fst) 0 < first.getD (Int.toNat (l'.getD t15.toNat (0, 0, 0, 0, ())).snd.fst) 0 then first.getD (Int.toNat (l'.getD t15.toNat (0, 0, 0, 0, ())).snd.snd.fst) 0 else first.getD (Int.toNat (l'.getD t15.toNat (0, 0, 0, 0, ())).snd.fst) 0, if first.getD (Int.toNat (l'.getD t15.toNat (0, 0, 0, 0, ())).snd.snd.fst) 0 > first.getD (Int.toNat (l'.getD t15.toNat (0, 0, 0, 0, ())).snd.fst) 0 then first.getD (Int.toNat (l'.getD t15.toNat (0, 0, 0, 0, ())).snd.snd.fst) 0 else first.getD (Int.toNat (l'.getD t15.toNat (0, 0, 0, 0, ())).snd.fst) 0, 0, ())).getD 0].isEmpty && (first.length + [(getM ((Ty.int IntKind.i64).pair ((Ty.int IntKind.i64).pair ((Ty.int IntKind.i64).pair ((Ty.int IntKind.i64).pair Ty.unit)))) (Ty.int IntKind.i64) known ((l'.getD t15.toNat (0, 0, 0, 0, ())).fst, if first.getD (Int.toNat (l'.getD t15.toNat (0, 0, 0, 0, ())).snd.snd.fst) 0 < first.getD (Int.toNat (l'.getD t15.toNat (0, 0, 0, 0, ())).snd.fst) 0 then first.getD (Int.toNat (l'.getD t15.toNat (0, 0, 0, 0, ())).snd.snd.fst) 0 else first.getD (Int.toNat (l'.getD t15.toNat (0, 0, 0, 0, ())).snd.fst) 0, if first.getD (Int.toNat (l'.getD t15.toNat (0, 0, 0, 0, ())).snd.snd.fst) 0 > first.getD (Int.toNat (l'.getD t15.toNat (0, 0, 0, 0, ())).snd.fst) 0 then first.getD (Int.toNat (l'.getD t15.toNat (0, 0, 0, 0, ())).snd.snd.fst) 0 else first.getD (Int.toNat (l'.getD t15.toNat (0, 0, 0, 0, ())).snd.fst) 0, 0, ())).getD 0].length).ble lim then
                  bif bimp false ![((l'.getD t15.toNat (0, 0, 0, 0, ())).fst, if first.getD (Int.toNat (l'.getD t15.toNat (0, 0, 0, 0, ())).snd.snd.fst) 0 < first.getD (Int.toNat (l'.getD t15.toNat (0, 0, 0, 0, ())).snd.fst) 0 then first.getD (Int.toNat (l'.getD t15.toNat (0, 0, 0, 0, ())).snd.snd.fst) 0 else first.getD (Int.toNat (l'.getD t15.toNat (0, 0, 0, 0, ())).snd.fst) 0, if first.getD (Int.toNat (l'.getD t15.toNat (0, 0, 0, 0, ())).snd.snd.fst) 0 > first.getD (Int.toNat (l'.getD t15.toNat (0, 0, 0, 0, ())).snd.fst) 0 then first.getD (Int.toNat (l'.getD t15.toNat (0, 0, 0, 0, ())).snd.snd.fst) 0 else first.getD (Int.toNat (l'.getD t15.toNat (0, 0, 0, 0, ())).snd.fst) 0, 0, ())].isEmpty && (own.length + [((l'.getD t15.toNat (0, 0, 0, 0, ())).fst, if first.getD (Int.toNat (l'.getD t15.toNat (0, 0, 0, 0, ())).snd.snd.fst) 0 < first.getD (Int.toNat (l'.getD t15.toNat (0, 0, 0, 0, ())).snd.fst) 0 then first.getD (Int.toNat (l'.getD t15.toNat (0, 0, 0, 0, ())).snd.snd.fst) 0 else first.getD (Int.toNat (l'.getD t15.toNat (0, 0, 0, 0, ())).snd.fst) 0, if first.getD (Int.toNat (l'.getD t15.toNat (0, 0, 0, 0, ())).snd.snd.fst) 0 > first.getD (Int.toNat (l'.getD t15.toNat (0, 0, 0, 0, ())).snd.fst) 0 then first.getD (Int.toNat (l'.getD t15.toNat (0, 0, 0, 0, ())).snd.snd.fst) 0 else first.getD (Int.toNat (l'.getD t15.toNat (0, 0, 0, 0, ())).snd.fst) 0, 0, ())].length).ble lim then
                    g0 known (first ++ [(getM ((Ty.int IntKind.i64).pair ((Ty.int IntKind.i64).pair ((Ty.int IntKind.i64).pair ((Ty.int IntKind.i64).pair Ty.unit)))) (Ty.int IntKind.i64) known ((l'.getD t15.toNat (0, 0, 0, 0, ())).fst, if first.getD (Int.toNat (l'.getD t15.toNat (0, 0, 0, 0, ())).snd.snd.fst) 0 < first.getD (Int.toNat (l'.getD t15.toNat (0, 0, 0, 0, ())).snd.fst) 0 then first.getD (Int.toNat (l'.getD t15.toNat (0, 0, 0, 0, ())).snd.snd.fst) 0 else first.getD (Int.toNat (l'.getD t15.toNat (0, 0, 0, 0, ())).snd.fst) 0, if first.getD (Int.toNat (l'.getD t15.toNat (0, 0, 0, 0, ())).snd.snd.fst) 0 > first.getD (Int.toNat (l'.getD t15.toNat (0, 0, 0, 0, ())).snd.fst) 0 then first.getD (Int.toNat (l'.getD t15.toNat (0, 0, 0, 0, ())).snd.snd.fst) 0 else first.getD (Int.toNat (l'.getD t15.toNat (0, 0, 0, 0, ())).snd.fst) 0, 0, ())).getD 0]) (own ++ [((l'.getD t15.toNat (0, 0, 0, 0, ())).fst, if first.getD (Int.toNat (l'.getD t15.toNat (0, 0, 0, 0, ())).snd.snd.fst) 0 < first.getD (Int.toNat (l'.getD t15.toNat (0, 0, 0, 0, ())).snd.fst) 0 then first.getD (Int.toNat (l'.getD t15.toNat (0, 0, 0, 0, ())).snd.snd.fst) 0 else first.getD (Int.toNat (l'.getD t15.toNat (0, 0, 0, 0, ())).snd.fst) 0, if first.getD (Int.toNat (l'.getD t15.toNat (0, 0, 0, 0, ())).snd.snd.fst) 0 > first.getD (Int.toNat (l'.getD t15.toNat (0, 0, 0, 0, ())).snd.fst) 0 then first.getD (Int.toNat (l'.getD t15.toNat (0, 0, 0, 0, ())).snd.snd.fst) 0 else first.getD (Int.toNat (l'.getD t15.toNat (0, 0, 0, 0, ())).snd.fst) 0, 0, ())]) (IntKind.i64.wrap (t15 + 1))
                  else
                    none
                else
                  none)
            else
              bif (l'.getD t15.toNat (0, 0, 0, 0, ())).fst == 5 then
                bif !(getM ((Ty.int IntKind.i64).pair ((Ty.int IntKind.i64).pair ((Ty.int IntKind.i64).pair ((Ty.int IntKind.i64).pair Ty.unit)))) (Ty.int IntKind.i64) known ((l'.getD t15.toNat (0, 0, 0, 0, ())).fst, if first.getD (Int.toNat (l'.getD t15.toNat (0, 0, 0, 0, ())).snd.snd.fst) 0 < first.getD (Int.toNat (l'.getD t15.toNat (0, 0, 0, 0, ())).snd.fst) 0 then first.getD (Int.toNat (l'.getD t15.toNat (0, 0, 0, 0, ())).snd.snd.fst) 0 else first.getD (Int.toNat (l'.getD t15.toNat (0, 0, 0, 0, ())).snd.fst) 0, if first.getD (Int.toNat (l'.getD t15.toNat (0, 0, 0, 0, ())).snd.snd.fst) 0 > first.getD (Int.toNat (l'.getD t15.toNat (0, 0, 0, 0, ())).snd.fst) 0 then first.getD (Int.toNat (l'.getD t15.toNat (0, 0, 0, 0, ())).snd.snd.fst) 0 else first.getD (Int.toNat (l'.getD t15.toNat (0, 0, 0, 0, ())).snd.fst) 0, 0, ())).isSome then
                  both (both (bif bimp false ![t15].isEmpty && (first.length + [t15].length).ble lim then
                    bif bimp false ![((l'.getD t15.toNat (0, 0, 0, 0, ())).fst, if first.getD (Int.toNat (l'.getD t15.toNat (0, 0, 0, 0, ())).snd.snd.fst) 0 < first.getD (Int.toNat (l'.getD t15.toNat (0, 0, 0, 0, ())).snd.fst) 0 then first.getD (Int.toNat (l'.getD t15.toNat (0, 0, 0, 0, ())).snd.snd.fst) 0 else first.getD (Int.toNat (l'.getD t15.toNat (0, 0, 0, 0, ())).snd.fst) 0, if first.getD (Int.toNat (l'.getD t15.toNat (0, 0, 0, 0, ())).snd.snd.fst) 0 > first.getD (Int.toNat (l'.getD t15.toNat (0, 0, 0, 0, ())).snd.fst) 0 then first.getD (Int.toNat (l'.getD t15.toNat (0, 0, 0, 0, ())).snd.snd.fst) 0 else first.getD (Int.toNat (l'.getD t15.toNat (0, 0, 0, 0, ())).snd.fst) 0, 0, ())].isEmpty && (own.length + [((l'.getD t15.toNat (0, 0, 0, 0, ())).fst, if first.getD (Int.toNat (l'.getD t15.toNat (0, 0, 0, 0, ())).snd.snd.fst) 0 < first.getD (Int.toNat (l'.getD t15.toNat (0, 0, 0, 0, ())).snd.fst) 0 then first.getD (Int.toNat (l'.getD t15.toNat (0, 0, 0, 0, ())).snd.snd.fst) 0 else first.getD (Int.toNat (l'.getD t15.toNat (0, 0, 0, 0, ())).snd.fst) 0, if first.getD (Int.toNat (l'.getD t15.toNat (0, 0, 0, 0, ())).snd.snd.fst) 0 > first.getD (Int.toNat (l'.getD t15.toNat (0, 0, 0, 0, ())).snd.fst) 0 then first.getD (Int.toNat (l'.getD t15.toNat (0, 0, 0, 0, ())).snd.snd.fst) 0 else first.getD (Int.toNat (l'.getD t15.toNat (0, 0, 0, 0, ())).snd.fst) 0, 0, ())].length).ble lim then
                      g0 (insM ((Ty.int IntKind.i64).pair ((Ty.int IntKind.i64).pair ((Ty.int IntKind.i64).pair ((Ty.int IntKind.i64).pair Ty.unit)))) (Ty.int IntKind.i64) known ((l'.getD t15.toNat (0, 0, 0, 0, ())).fst, if first.getD (Int.toNat (l'.getD t15.toNat (0, 0, 0, 0, ())).snd.snd.fst) 0 < first.getD (Int.toNat (l'.getD t15.toNat (0, 0, 0, 0, ())).snd.fst) 0 then first.getD (Int.toNat (l'.getD t15.toNat (0, 0, 0, 0, ())).snd.snd.fst) 0 else first.getD (Int.toNat (l'.getD t15.toNat (0, 0, 0, 0, ())).snd.fst) 0, if first.getD (Int.toNat (l'.getD t15.toNat (0, 0, 0, 0, ())).snd.snd.fst) 0 > first.getD (Int.toNat (l'.getD t15.toNat (0, 0, 0, 0, ())).snd.fst) 0 then first.getD (Int.toNat (l'.getD t15.toNat (0, 0, 0, 0, ())).snd.snd.fst) 0 else first.getD (Int.toNat (l'.getD t15.toNat (0, 0, 0, 0, ())).snd.fst) 0, 0, ()) t15) (first ++ [t15]) (own ++ [((l'.getD t15.toNat (0, 0, 0, 0, ())).fst, if first.getD (Int.toNat (l'.getD t15.toNat (0, 0, 0, 0, ())).snd.snd.fst) 0 < first.getD (Int.toNat (l'.getD t15.toNat (0, 0, 0, 0, ())).snd.fst) 0 then first.getD (Int.toNat (l'.getD t15.toNat (0, 0, 0, 0, ())).snd.snd.fst) 0 else first.getD (Int.toNat (l'.getD t15.toNat (0, 0, 0, 0, ())).snd.fst) 0, if first.getD (Int.toNat (l'.getD t15.toNat (0, 0, 0, 0, ())).snd.snd.fst) 0 > first.getD (Int.toNat (l'.getD t15.toNat (0, 0, 0, 0, ())).snd.fst) 0 then first.getD (Int.toNat (l'.getD t15.toNat (0, 0, 0, 0, ())).snd.snd.fst) 0 else first.getD (Int.toNat (l'.getD t15.toNat (0, 0, 0, 0, ())).snd.fst) 0, 0, ())]) (IntKind.i64.wrap (t15 + 1))
                    else
                      none
                  else
                    none) (bif bimp false ![t15].isEmpty && (first.length + [t15].length).ble lim then
                    bif bimp false ![((l'.getD t15.toNat (0, 0, 0, 0, ())).fst, if first.getD (Int.toNat (l'.getD t15.toNat (0, 0, 0, 0, ())).snd.snd.fst) 0 < first.getD (Int.toNat (l'.getD t15.toNat (0, 0, 0, 0, ())).snd.fst) 0 then first.getD (Int.toNat (l'.getD t15.toNat (0, 0, 0, 0, ())).snd.snd.fst) 0 else first.getD (Int.toNat (l'.getD t15.toNat (0, 0, 0, 0, ())).snd.fst) 0, if first.getD (Int.toNat (l'.getD t15.toNat (0, 0, 0, 0, ())).snd.snd.fst) 0 > first.getD (Int.toNat (l'.getD t15.toNat (0, 0, 0, 0, ())).snd.fst) 0 then first.getD (Int.toNat (l'.getD t15.toNat (0, 0, 0, 0, ())).snd.snd.fst) 0 else first.getD (Int.toNat (l'.getD t15.toNat (0, 0, 0, 0, ())).snd.fst) 0, 0, ())].isEmpty && (own.length + [((l'.getD t15.toNat (0, 0, 0, 0, ())).fst, if first.getD (Int.toNat (l'.getD t15.toNat (0, 0, 0, 0, ())).snd.snd.fst) 0 < first.getD (Int.toNat (l'.getD t15.toNat (0, 0, 0, 0, ())).snd.fst) 0 then first.getD (Int.toNat (l'.getD t15.toNat (0, 0, 0, 0, ())).snd.snd.fst) 0 else first.getD (Int.toNat (l'.getD t15.toNat (0, 0, 0, 0, ())).snd.fst) 0, if first.getD (Int.toNat (l'.getD t15.toNat (0, 0, 0, 0, ())).snd.snd.fst) 0 > first.getD (Int.toNat (l'.getD t15.toNat (0, 0, 0, 0, ())).snd.fst) 0 then first.getD (Int.toNat (l'.getD t15.toNat (0, 0, 0, 0, ())).snd.snd.fst) 0 else first.getD (Int.toNat (l'.getD t15.toNat (0, 0, 0, 0, ())).snd.fst) 0, 0, ())].length).ble lim then
                      g0 (insM ((Ty.int IntKind.i64).pair ((Ty.int IntKind.i64).pair ((Ty.int IntKind.i64).pair ((Ty.int IntKind.i64).pair Ty.unit)))) (Ty.int IntKind.i64) known ((l'.getD t15.toNat (0, 0, 0, 0, ())).fst, if first.getD (Int.toNat (l'.getD t15.toNat (0, 0, 0, 0, ())).snd.snd.fst) 0 < first.getD (Int.toNat (l'.getD t15.toNat (0, 0, 0, 0, ())).snd.fst) 0 then first.getD (Int.toNat (l'.getD t15.toNat (0, 0, 0, 0, ())).snd.snd.fst) 0 else first.getD (Int.toNat (l'.getD t15.toNat (0, 0, 0, 0, ())).snd.fst) 0, if first.getD (Int.toNat (l'.getD t15.toNat (0, 0, 0, 0, ())).snd.snd.fst) 0 > first.getD (Int.toNat (l'.getD t15.toNat (0, 0, 0, 0, ())).snd.fst) 0 then first.getD (Int.toNat (l'.getD t15.toNat (0, 0, 0, 0, ())).snd.snd.fst) 0 else first.getD (Int.toNat (l'.getD t15.toNat (0, 0, 0, 0, ())).snd.fst) 0, 0, ()) t15) (first ++ [t15]) (own ++ [((l'.getD t15.toNat (0, 0, 0, 0, ())).fst, if first.getD (Int.toNat (l'.getD t15.toNat (0, 0, 0, 0, ())).snd.snd.fst) 0 < first.getD (Int.toNat (l'.getD t15.toNat (0, 0, 0, 0, ())).snd.fst) 0 then first.getD (Int.toNat (l'.getD t15.toNat (0, 0, 0, 0, ())).snd.snd.fst) 0 else first.getD (Int.toNat (l'.getD t15.toNat (0, 0, 0, 0, ())).snd.fst) 0, if first.getD (Int.toNat (l'.getD t15.toNat (0, 0, 0, 0, ())).snd.snd.fst) 0 > first.getD (Int.toNat (l'.getD t15.toNat (0, 0, 0, 0, ())).snd.fst) 0 then first.getD (Int.toNat (l'.getD t15.toNat (0, 0, 0, 0, ())).snd.snd.fst) 0 else first.getD (Int.toNat (l'.getD t15.toNat (0, 0, 0, 0, ())).snd.fst) 0, 0, ())]) (IntKind.i64.wrap (t15 + 1))
                    else
                      none
                  else
                    none)) (bif bimp false ![t15].isEmpty && (first.length + [t15].length).ble lim then
                    bif bimp false ![((l'.getD t15.toNat (0, 0, 0, 0, ())).fst, if first.getD (Int.toNat (l'.getD t15.toNat (0, 0, 0, 0, ())).snd.snd.fst) 0 < first.getD (Int.toNat (l'.getD t15.toNat (0, 0, 0, 0, ())).snd.fst) 0 then first.getD (Int.toNat (l'.getD t15.toNat (0, 0, 0, 0, ())).snd.snd.fst) 0 else first.getD (Int.toNat (l'.getD t15.toNat (0, 0, 0, 0, ())).snd.fst) 0, if first.getD (Int.toNat (l'.getD t15.toNat (0, 0, 0, 0, ())).snd.snd.fst) 0 > first.getD (Int.toNat (l'.getD t15.toNat (0, 0, 0, 0, ())).snd.fst) 0 then first.getD (Int.toNat (l'.getD t15.toNat (0, 0, 0, 0, ())).snd.snd.fst) 0 else first.getD (Int.toNat (l'.getD t15.toNat (0, 0, 0, 0, ())).snd.fst) 0, 0, ())].isEmpty && (own.length + [((l'.getD t15.toNat (0, 0, 0, 0, ())).fst, if first.getD (Int.toNat (l'.getD t15.toNat (0, 0, 0, 0, ())).snd.snd.fst) 0 < first.getD (Int.toNat (l'.getD t15.toNat (0, 0, 0, 0, ())).snd.fst) 0 then first.getD (Int.toNat (l'.getD t15.toNat (0, 0, 0, 0, ())).snd.snd.fst) 0 else first.getD (Int.toNat (l'.getD t15.toNat (0, 0, 0, 0, ())).snd.fst) 0, if first.getD (Int.toNat (l'.getD t15.toNat (0, 0, 0, 0, ())).snd.snd.fst) 0 > first.getD (Int.toNat (l'.getD t15.toNat (0, 0, 0, 0, ())).snd.fst) 0 then first.getD (Int.toNat (l'.getD t15.toNat (0, 0, 0, 0, ())).snd.snd.fst) 0 else first.getD (Int.toNat (l'.getD t15.toNat (0, 0, 0, 0, ())).snd.fst) 0, 0, ())].length).ble lim then
                      g0 (insM ((Ty.int IntKind.i64).pair ((Ty.int IntKind.i64).pair ((Ty.int IntKind.i64).pair ((Ty.int IntKind.i64).pair Ty.unit)))) (Ty.int IntKind.i64) known ((l'.getD t15.toNat (0, 0, 0, 0, ())).fst, if first.getD (Int.toNat (l'.getD t15.toNat (0, 0, 0, 0, ())).snd.snd.fst) 0 < first.getD (Int.toNat (l'.getD t15.toNat (0, 0, 0, 0, ())).snd.fst) 0 then first.getD (Int.toNat (l'.getD t15.toNat (0, 0, 0, 0, ())).snd.snd.fst) 0 else first.getD (Int.toNat (l'.getD t15.toNat (0, 0, 0, 0, ())).snd.fst) 0, if first.getD (Int.toNat (l'.getD t15.toNat (0, 0, 0, 0, ())).snd.snd.fst) 0 > first.getD (Int.toNat (l'.getD t15.toNat (0, 0, 0, 0, ())).snd.fst) 0 then first.getD (Int.toNat (l'.getD t15.toNat (0, 0, 0, 0, ())).snd.snd.fst) 0 else first.getD (Int.toNat (l'.getD t15.toNat (0, 0, 0, 0, ())).snd.fst) 0, 0, ()) t15) (first ++ [t15]) (own ++ [((l'.getD t15.toNat (0, 0, 0, 0, ())).fst, if first.getD (Int.toNat (l'.getD t15.toNat (0, 0, 0, 0, ())).snd.snd.fst) 0 < first.getD (Int.toNat (l'.getD t15.toNat (0, 0, 0, 0, ())).snd.fst) 0 then first.getD (Int.toNat (l'.getD t15.toNat (0, 0, 0, 0, ())).snd.snd.fst) 0 else first.getD (Int.toNat (l'.getD t15.toNat (0, 0, 0, 0, ())).snd.fst) 0, if first.getD (Int.toNat (l'.getD t15.toNat (0, 0, 0, 0, ())).snd.snd.fst) 0 > first.getD (Int.toNat (l'.getD t15.toNat (0, 0, 0, 0, ())).snd.fst) 0 then first.getD (Int.toNat (l'.getD t15.toNat (0, 0, 0, 0, ())).snd.snd.fst) 0 else first.getD (Int.toNat (l'.getD t15.toNat (0, 0, 0, 0, ())).snd.fst) 0, 0, ())]) (IntKind.i64.wrap (t15 + 1))
                    else
                      none
                  else
                    none)
                else
                  both (both (bif bimp false ![(getM ((Ty.int IntKind.i64).pair ((Ty.int IntKind.i64).pair ((Ty.int IntKind.i64).pair ((Ty.int IntKind.i64).pair Ty.unit)))) (Ty.int IntKind.i64) known ((l'.getD t15.toNat (0, 0, 0, 0, ())).fst, if first.getD (Int.toNat (l'.getD t15.toNat (0, 0, 0, 0, ())).snd.snd.fst) 0 < first.getD (Int.toNat (l'.getD t15.toNat (0, 0, 0, 0, ())).snd.fst) 0 then first.getD (Int.toNat (l'.getD t15.toNat (0, 0, 0, 0, ())).snd.snd.fst) 0 else first.getD (Int.toNat (l'.getD t15.toNat (0, 0, 0, 0, ())).snd.fst) 0, if first.getD (Int.toNat (l'.getD t15.toNat (0, 0, 0, 0, ())).snd.snd.fst) 0 > first.getD (Int.toNat (l'.getD t15.toNat (0, 0, 0, 0, ())).snd.fst) 0 then first.getD (Int.toNat (l'.getD t15.toNat (0, 0, 0, 0, ())).snd.snd.fst) 0 else first.getD (Int.toNat (l'.getD t15.toNat (0, 0, 0, 0, ())).snd.fst) 0, 0, ())).getD 0].isEmpty && (first.length + [(getM ((Ty.int IntKind.i64).pair ((Ty.int IntKind.i64).pair ((Ty.int IntKind.i64).pair ((Ty.int IntKind.i64).pair Ty.unit)))) (Ty.int IntKind.i64) known ((l'.getD t15.toNat (0, 0, 0, 0, ())).fst, if first.getD (Int.toNat (l'.getD t15.toNat (0, 0, 0, 0, ())).snd.snd.fst) 0 < first.getD (Int.toNat (l'.getD t15.toNat (0, 0, 0, 0, ())).snd.fst) 0 then first.getD (Int.toNat (l'.getD t15.toNat (0, 0, 0, 0, ())).snd.snd.fst) 0 else first.getD (Int.toNat (l'.getD t15.toNat (0, 0, 0, 0, ())).snd.fst) 0, if first.getD (Int.toNat (l'.getD t15.toNat (0, 0, 0, 0, ())).snd.snd.fst) 0 > first.getD (Int.toNat (l'.getD t15.toNat (0, 0, 0, 0, ())).snd.fst) 0 then first.getD (Int.toNat (l'.getD t15.toNat (0, 0, 0, 0, ())).snd.snd.fst) 0 else first.getD (Int.toNat (l'.getD t15.toNat (0, 0, 0, 0, ())).snd.fst) 0, 0, ())).getD 0].length).ble lim then
                    bif bimp false ![((l'.getD t15.toNat (0, 0, 0, 0, ())).fst, if first.getD (Int.toNat (l'.getD t15.toNat (0, 0, 0, 0, ())).snd.snd.fst) 0 < first.getD (Int.toNat (l'.getD t15.toNat (0, 0, 0, 0, ())).snd.fst) 0 then first.getD (Int.toNat (l'.getD t15.toNat (0, 0, 0, 0, ())).snd.snd.fst) 0 else first.getD (Int.toNat (l'.getD t15.toNat (0, 0, 0, 0, ())).snd.fst) 0, if first.getD (Int.toNat (l'.getD t15.toNat (0, 0, 0, 0, ())).snd.snd.fst) 0 > first.getD (Int.toNat (l'.getD t15.toNat (0, 0, 0, 0, ())).snd.fst) 0 then first.getD (Int.toNat (l'.getD t15.toNat (0, 0, 0, 0, ())).snd.snd.fst) 0 else first.getD (Int.toNat (l'.getD t15.toNat (0, 0, 0, 0, ())).snd.fst) 0, 0, ())].isEmpty && (own.length + [((l'.getD t15.toNat (0, 0, 0, 0, ())).fst, if first.getD (Int.toNat (l'.getD t15.toNat (0, 0, 0, 0, ())).snd.snd.fst) 0 < first.getD (Int.toNat (l'.getD t15.toNat (0, 0, 0, 0, ())).snd.fst) 0 then first.getD (Int.toNat (l'.getD t15.toNat (0, 0, 0, 0, ())).snd.snd.fst) 0 else first.getD (Int.toNat (l'.getD t15.toNat (0, 0, 0, 0, ())).snd.fst) 0, if first.getD (Int.toNat (l'.getD t15.toNat (0, 0, 0, 0, ())).snd.snd.fst) 0 > first.getD (Int.toNat (l'.getD t15.toNat (0, 0, 0, 0, ())).snd.fst) 0 then first.getD (Int.toNat (l'.getD t15.toNat (0, 0, 0, 0, ())).snd.snd.fst) 0 else first.getD (Int.toNat (l'.getD t15.toNat (0, 0, 0, 0, ())).snd.fst) 0, 0, ())].length).ble lim then
                      g0 known (first ++ [(getM ((Ty.int IntKind.i64).pair ((Ty.int IntKind.i64).pair ((Ty.int IntKind.i64).pair ((Ty.int IntKind.i64).pair Ty.unit)))) (Ty.int IntKind.i64) known ((l'.getD t15.toNat (0, 0, 0, 0, ())).fst, if first.getD (Int.toNat (l'.getD t15.toNat (0, 0, 0, 0, ())).snd.snd.fst) 0 < first.getD (Int.toNat (l'.getD t15.toNat (0, 0, 0, 0, ())).snd.fst) 0 then first.getD (Int.toNat (l'.getD t15.toNat (0, 0, 0, 0, ())).snd.snd.fst) 0 else first.getD (Int.toNat (l'.getD t15.toNat (0, 0, 0, 0, ())).snd.fst) 0, if first.getD (Int.toNat (l'.getD t15.toNat (0, 0, 0, 0, ())).snd.snd.fst) 0 > first.getD (Int.toNat (l'.getD t15.toNat (0, 0, 0, 0, ())).snd.fst) 0 then first.getD (Int.toNat (l'.getD t15.toNat (0, 0, 0, 0, ())).snd.snd.fst) 0 else first.getD (Int.toNat (l'.getD t15.toNat (0, 0, 0, 0, ())).snd.fst) 0, 0, ())).getD 0]) (own ++ [((l'.getD t15.toNat (0, 0, 0, 0, ())).fst, if first.getD (Int.toNat (l'.getD t15.toNat (0, 0, 0, 0, ())).snd.snd.fst) 0 < first.getD (Int.toNat (l'.getD t15.toNat (0, 0, 0, 0, ())).snd.fst) 0 then first.getD (Int.toNat (l'.getD t15.toNat (0, 0, 0, 0, ())).snd.snd.fst) 0 else first.getD (Int.toNat (l'.getD t15.toNat (0, 0, 0, 0, ())).snd.fst) 0, if first.getD (Int.toNat (l'.getD t15.toNat (0, 0, 0, 0, ())).snd.snd.fst) 0 > first.getD (Int.toNat (l'.getD t15.toNat (0, 0, 0, 0, ())).snd.fst) 0 then first.getD (Int.toNat (l'.getD t15.toNat (0, 0, 0, 0, ())).snd.snd.fst) 0 else first.getD (Int.toNat (l'.getD t15.toNat (0, 0, 0, 0, ())).snd.fst) 0, 0, ())]) (IntKind.i64.wrap (t15 + 1))
                    else
                      none
                  else
                    none) (bif bimp false ![(getM ((Ty.int IntKind.i64).pair ((Ty.int IntKind.i64).pair ((Ty.int IntKind.i64).pair ((Ty.int IntKind.i64).pair Ty.unit)))) (Ty.int IntKind.i64) known ((l'.getD t15.toNat (0, 0, 0, 0, ())).fst, if first.getD (Int.toNat (l'.getD t15.toNat (0, 0, 0, 0, ())).snd.snd.fst) 0 < first.getD (Int.toNat (l'.getD t15.toNat (0, 0, 0, 0, ())).snd.fst) 0 then first.getD (Int.toNat (l'.getD t15.toNat (0, 0, 0, 0, ())).snd.snd.fst) 0 else first.getD (Int.toNat (l'.getD t15.toNat (0, 0, 0, 0, ())).snd.fst) 0, if first.getD (Int.toNat (l'.getD t15.toNat (0, 0, 0, 0, ())).snd.snd.fst) 0 > first.getD (Int.toNat (l'.getD t15.toNat (0, 0, 0, 0, ())).snd.fst) 0 then first.getD (Int.toNat (l'.getD t15.toNat (0, 0, 0, 0, ())).snd.snd.fst) 0 else first.getD (Int.toNat (l'.getD t15.toNat (0, 0, 0, 0, ())).snd.fst) 0, 0, ())).getD 0].isEmpty && (first.length + [(getM ((Ty.int IntKind.i64).pair ((Ty.int IntKind.i64).pair ((Ty.int IntKind.i64).pair ((Ty.int IntKind.i64).pair Ty.unit)))) (Ty.int IntKind.i64) known ((l'.getD t15.toNat (0, 0, 0, 0, ())).fst, if first.getD (Int.toNat (l'.getD t15.toNat (0, 0, 0, 0, ())).snd.snd.fst) 0 < first.getD (Int.toNat (l'.getD t15.toNat (0, 0, 0, 0, ())).snd.fst) 0 then first.getD (Int.toNat (l'.getD t15.toNat (0, 0, 0, 0, ())).snd.snd.fst) 0 else first.getD (Int.toNat (l'.getD t15.toNat (0, 0, 0, 0, ())).snd.fst) 0, if first.getD (Int.toNat (l'.getD t15.toNat (0, 0, 0, 0, ())).snd.snd.fst) 0 > first.getD (Int.toNat (l'.getD t15.toNat (0, 0, 0, 0, ())).snd.fst) 0 then first.getD (Int.toNat (l'.getD t15.toNat (0, 0, 0, 0, ())).snd.snd.fst) 0 else first.getD (Int.toNat (l'.getD t15.toNat (0, 0, 0, 0, ())).snd.fst) 0, 0, ())).getD 0].length).ble lim then
                    bif bimp false ![((l'.getD t15.toNat (0, 0, 0, 0, ())).fst, if first.getD (Int.toNat (l'.getD t15.toNat (0, 0, 0, 0, ())).snd.snd.fst) 0 < first.getD (Int.toNat (l'.getD t15.toNat (0, 0, 0, 0, ())).snd.fst) 0 then first.getD (Int.toNat (l'.getD t15.toNat (0, 0, 0, 0, ())).snd.snd.fst) 0 else first.getD (Int.toNat (l'.getD t15.toNat (0, 0, 0, 0, ())).snd.fst) 0, if first.getD (Int.toNat (l'.getD t15.toNat (0, 0, 0, 0, ())).snd.snd.fst) 0 > first.getD (Int.toNat (l'.getD t15.toNat (0, 0, 0, 0, ())).snd.fst) 0 then first.getD (Int.toNat (l'.getD t15.toNat (0, 0, 0, 0, ())).snd.snd.fst) 0 else first.getD (Int.toNat (l'.getD t15.toNat (0, 0, 0, 0, ())).snd.fst) 0, 0, ())].isEmpty && (own.length + [((l'.getD t15.toNat (0, 0, 0, 0, ())).fst, if first.getD (Int.toNat (l'.getD t15.toNat (0, 0, 0, 0, ())).snd.snd.fst) 0 < first.getD (Int.toNat (l'.getD t15.toNat (0, 0, 0, 0, ())).snd.fst) 0 then first.getD (Int.toNat (l'.getD t15.toNat (0, 0, 0, 0, ())).snd.snd.fst) 0 else first.getD (Int.toNat (l'.getD t15.toNat (0, 0, 0, 0, ())).snd.fst) 0, if first.getD (Int.toNat (l'.getD t15.toNat (0, 0, 0, 0, ())).snd.snd.fst) 0 > first.getD (Int.toNat (l'.getD t15.toNat (0, 0, 0, 0, ())).snd.fst) 0 then first.getD (Int.toNat (l'.getD t15.toNat (0, 0, 0, 0, ())).snd.snd.fst) 0 else first.getD (Int.toNat (l'.getD t15.toNat (0, 0, 0, 0, ())).snd.fst) 0, 0, ())].length).ble lim then
                      g0 known (first ++ [(getM ((Ty.int IntKind.i64).pair ((Ty.int IntKind.i64).pair ((Ty.int IntKind.i64).pair ((Ty.int IntKind.i64).pair Ty.unit)))) (Ty.int IntKind.i64) known ((l'.getD t15.toNat (0, 0, 0, 0, ())).fst, if first.getD (Int.toNat (l'.getD t15.toNat (0, 0, 0, 0, ())).snd.snd.fst) 0 < first.getD (Int.toNat (l'.getD t15.toNat (0, 0, 0, 0, ())).snd.fst) 0 then first.getD (Int.toNat (l'.getD t15.toNat (0, 0, 0, 0, ())).snd.snd.fst) 0 else first.getD (Int.toNat (l'.getD t15.toNat (0, 0, 0, 0, ())).snd.fst) 0, if first.getD (Int.toNat (l'.getD t15.toNat (0, 0, 0, 0, ())).snd.snd.fst) 0 > first.getD (Int.toNat (l'.getD t15.toNat (0, 0, 0, 0, ())).snd.fst) 0 then first.getD (Int.toNat (l'.getD t15.toNat (0, 0, 0, 0, ())).snd.snd.fst) 0 else first.getD (Int.toNat (l'.getD t15.toNat (0, 0, 0, 0, ())).snd.fst) 0, 0, ())).getD 0]) (own ++ [((l'.getD t15.toNat (0, 0, 0, 0, ())).fst, if first.getD (Int.toNat (l'.getD t15.toNat (0, 0, 0, 0, ())).snd.snd.fst) 0 < first.getD (Int.toNat (l'.getD t15.toNat (0, 0, 0, 0, ())).snd.fst) 0 then first.getD (Int.toNat (l'.getD t15.toNat (0, 0, 0, 0, ())).snd.snd.fst) 0 else first.getD (Int.toNat (l'.getD t15.toNat (0, 0, 0, 0, ())).snd.fst) 0, if first.getD (Int.toNat (l'.getD t15.toNat (0, 0, 0, 0, ())).snd.snd.fst) 0 > first.getD (Int.toNat (l'.getD t15.toNat (0, 0, 0, 0, ())).snd.fst) 0 then first.getD (Int.toNat (l'.getD t15.toNat (0, 0, 0, 0, ())).snd.snd.fst) 0 else first.getD (Int.toNat (l'.getD t15.toNat (0, 0, 0, 0, ())).snd.fst) 0, 0, ())]) (IntKind.i64.wrap (t15 + 1))
                    else
                      none
                  else
                    none)) (bif bimp false ![(getM ((Ty.int IntKind.i64).pair ((Ty.int IntKind.i64).pair ((Ty.int IntKind.i64).pair ((Ty.int IntKind.i64).pair Ty.unit)))) (Ty.int IntKind.i64) known ((l'.getD t15.toNat (0, 0, 0, 0, ())).fst, if first.getD (Int.toNat (l'.getD t15.toNat (0, 0, 0, 0, ())).snd.snd.fst) 0 < first.getD (Int.toNat (l'.getD t15.toNat (0, 0, 0, 0, ())).snd.fst) 0 then first.getD (Int.toNat (l'.getD t15.toNat (0, 0, 0, 0, ())).snd.snd.fst) 0 else first.getD (Int.toNat (l'.getD t15.toNat (0, 0, 0, 0, ())).snd.fst) 0, if first.getD (Int.toNat (l'.getD t15.toNat (0, 0, 0, 0, ())).snd.snd.fst) 0 > first.getD (Int.toNat (l'.getD t15.toNat (0, 0, 0, 0, ())).snd.fst) 0 then first.getD (Int.toNat (l'.getD t15.toNat (0, 0, 0, 0, ())).snd.snd.fst) 0 else first.getD (Int.toNat (l'.getD t15.toNat (0, 0, 0, 0, ())).snd.fst) 0, 0, ())).getD 0].isEmpty && (first.length + [(getM ((Ty.int IntKind.i64).pair ((Ty.int IntKind.i64).pair ((Ty.int IntKind.i64).pair ((Ty.int IntKind.i64).pair Ty.unit)))) (Ty.int IntKind.i64) known ((l'.getD t15.toNat (0, 0, 0, 0, ())).fst, if first.getD (Int.toNat (l'.getD t15.toNat (0, 0, 0, 0, ())).snd.snd.fst) 0 < first.getD (Int.toNat (l'.getD t15.toNat (0, 0, 0, 0, ())).snd.fst) 0 then first.getD (Int.toNat (l'.getD t15.toNat (0, 0, 0, 0, ())).snd.snd.fst) 0 else first.getD (Int.toNat (l'.getD t15.toNat (0, 0, 0, 0, ())).snd.fst) 0, if first.getD (Int.toNat (l'.getD t15.toNat (0, 0, 0, 0, ())).snd.snd.fst) 0 > first.getD (Int.toNat (l'.getD t15.toNat (0, 0, 0, 0, ())).snd.fst) 0 then first.getD (Int.toNat (l'.getD t15.toNat (0, 0, 0, 0, ())).snd.snd.fst) 0 else first.getD (Int.toNat (l'.getD t15.toNat (0, 0, 0, 0, ())).snd.fst) 0, 0, ())).getD 0].length).ble lim then
                    bif bimp false ![((l'.getD t15.toNat (0, 0, 0, 0, ())).fst, if first.getD (Int.toNat (l'.getD t15.toNat (0, 0, 0, 0, ())).snd.snd.fst) 0 < first.getD (Int.toNat (l'.getD t15.toNat (0, 0, 0, 0, ())).snd.fst) 0 then first.getD (Int.toNat (l'.getD t15.toNat (0, 0, 0, 0, ())).snd.snd.fst) 0 else first.getD (Int.toNat (l'.getD t15.toNat (0, 0, 0, 0, ())).snd.fst) 0, if first.getD (Int.toNat (l'.getD t15.toNat (0, 0, 0, 0, ())).snd.snd.fst) 0 > first.getD (Int.toNat (l'.getD t15.toNat (0, 0, 0, 0, ())).snd.fst) 0 then first.getD (Int.toNat (l'.getD t15.toNat (0, 0, 0, 0, ())).snd.snd.fst) 0 else first.getD (Int.toNat (l'.getD t15.toNat (0, 0, 0, 0, ())).snd.fst) 0, 0, ())].isEmpty && (own.length + [((l'.getD t15.toNat (0, 0, 0, 0, ())).fst, if first.getD (Int.toNat (l'.getD t15.toNat (0, 0, 0, 0, ())).snd.snd.fst) 0 < first.getD (Int.toNat (l'.getD t15.toNat (0, 0, 0, 0, ())).snd.fst) 0 then first.getD (Int.toNat (l'.getD t15.toNat (0, 0, 0, 0, ())).snd.snd.fst) 0 else first.getD (Int.toNat (l'.getD t15.toNat (0, 0, 0, 0, ())).snd.fst) 0, if first.getD (Int.toNat (l'.getD t15.toNat (0, 0, 0, 0, ())).snd.snd.fst) 0 > first.getD (Int.toNat (l'.getD t15.toNat (0, 0, 0, 0, ())).snd.fst) 0 then first.getD (Int.toNat (l'.getD t15.toNat (0, 0, 0, 0, ())).snd.snd.fst) 0 else first.getD (Int.toNat (l'.getD t15.toNat (0, 0, 0, 0, ())).snd.fst) 0, 0, ())].length).ble lim then
                      g0 known (first ++ [(getM ((Ty.int IntKind.i64).pair ((Ty.int IntKind.i64).pair ((Ty.int IntKind.i64).pair ((Ty.int IntKind.i64).pair Ty.unit)))) (Ty.int IntKind.i64) known ((l'.getD t15.toNat (0, 0, 0, 0, ())).fst, if first.getD (Int.toNat (l'.getD t15.toNat (0, 0, 0, 0, ())).snd.snd.fst) 0 < first.getD (Int.toNat (l'.getD t15.toNat (0, 0, 0, 0, ())).snd.fst) 0 then first.getD (Int.toNat (l'.getD t15.toNat (0, 0, 0, 0, ())).snd.snd.fst) 0 else first.getD (Int.toNat (l'.getD t15.toNat (0, 0, 0, 0, ())).snd.fst) 0, if first.getD (Int.toNat (l'.getD t15.toNat (0, 0, 0, 0, ())).snd.snd.fst) 0 > first.getD (Int.toNat (l'.getD t15.toNat (0, 0, 0, 0, ())).snd.fst) 0 then first.getD (Int.toNat (l'.getD t15.toNat (0, 0, 0, 0, ())).snd.snd.fst) 0 else first.getD (Int.toNat (l'.getD t15.toNat (0, 0, 0, 0, ())).snd.fst) 0, 0, ())).getD 0]) (own ++ [((l'.getD t15.toNat (0, 0, 0, 0, ())).fst, if first.getD (Int.toNat (l'.getD t15.toNat (0, 0, 0, 0, ())).snd.snd.fst) 0 < first.getD (Int.toNat (l'.getD t15.toNat (0, 0, 0, 0, ())).snd.fst) 0 then first.getD (Int.toNat (l'.getD t15.toNat (0, 0, 0, 0, ())).snd.snd.fst) 0 else first.getD (Int.toNat (l'.getD t15.toNat (0, 0, 0, 0, ())).snd.fst) 0, if first.getD (Int.toNat (l'.getD t15.toNat (0, 0, 0, 0, ())).snd.snd.fst) 0 > first.getD (Int.toNat (l'.getD t15.toNat (0, 0, 0, 0, ())).snd.fst) 0 then first.getD (Int.toNat (l'.getD t15.toNat (0, 0, 0, 0, ())).snd.snd.fst) 0 else first.getD (Int.toNat (l'.getD t15.toNat (0, 0, 0, 0, ())).snd.fst) 0, 0, ())]) (IntKind.i64.wrap (t15 + 1))
                    else
                      none
                  else
                    none)
              else
                bif !(getM ((Ty.int IntKind.i64).pair ((Ty.int IntKind.i64).pair ((Ty.int IntKind.i64).pair ((Ty.int IntKind.i64).pair Ty.unit)))) (Ty.int IntKind.i64) known ((l'.getD t15.toNat (0, 0, 0, 0, ())).fst, first.getD (Int.toNat (l'.getD t15.toNat (0, 0, 0, 0, ())).snd.fst) 0, first.getD (Int.toNat (l'.getD t15.toNat (0, 0, 0, 0, ())).snd.snd.fst) 0, 0, ())).isSome then
                  both (both (bif bimp false ![t15].isEmpty && (first.length + [t15].length).ble lim then
                    bif bimp false ![((l'.getD t15.toNat (0, 0, 0, 0, ())).fst, first.getD (Int.toNat (l'.getD t15.toNat (0, 0, 0, 0, ())).snd.fst) 0, first.getD (Int.toNat (l'.getD t15.toNat (0, 0, 0, 0, ())).snd.snd.fst) 0, 0, ())].isEmpty && (own.length + [((l'.getD t15.toNat (0, 0, 0, 0, ())).fst, first.getD (Int.toNat (l'.getD t15.toNat (0, 0, 0, 0, ())).snd.fst) 0, first.getD (Int.toNat (l'.getD t15.toNat (0, 0, 0, 0, ())).snd.snd.fst) 0, 0, ())].length).ble lim then
                      g0 (insM ((Ty.int IntKind.i64).pair ((Ty.int IntKind.i64).pair ((Ty.int IntKind.i64).pair ((Ty.int IntKind.i64).pair Ty.unit)))) (Ty.int IntKind.i64) known ((l'.getD t15.toNat (0, 0, 0, 0, ())).fst, first.getD (Int.toNat (l'.getD t15.toNat (0, 0, 0, 0, ())).snd.fst) 0, first.getD (Int.toNat (l'.getD t15.toNat (0, 0, 0, 0, ())).snd.snd.fst) 0, 0, ()) t15) (first ++ [t15]) (own ++ [((l'.getD t15.toNat (0, 0, 0, 0, ())).fst, first.getD (Int.toNat (l'.getD t15.toNat (0, 0, 0, 0, ())).snd.fst) 0, first.getD (Int.toNat (l'.getD t15.toNat (0, 0, 0, 0, ())).snd.snd.fst) 0, 0, ())]) (IntKind.i64.wrap (t15 + 1))
                    else
                      none
                  else
                    none) (bif bimp false ![t15].isEmpty && (first.length + [t15].length).ble lim then
                    bif bimp false ![((l'.getD t15.toNat (0, 0, 0, 0, ())).fst, first.getD (Int.toNat (l'.getD t15.toNat (0, 0, 0, 0, ())).snd.fst) 0, first.getD (Int.toNat (l'.getD t15.toNat (0, 0, 0, 0, ())).snd.snd.fst) 0, 0, ())].isEmpty && (own.length + [((l'.getD t15.toNat (0, 0, 0, 0, ())).fst, first.getD (Int.toNat (l'.getD t15.toNat (0, 0, 0, 0, ())).snd.fst) 0, first.getD (Int.toNat (l'.getD t15.toNat (0, 0, 0, 0, ())).snd.snd.fst) 0, 0, ())].length).ble lim then
                      g0 (insM ((Ty.int IntKind.i64).pair ((Ty.int IntKind.i64).pair ((Ty.int IntKind.i64).pair ((Ty.int IntKind.i64).pair Ty.unit)))) (Ty.int IntKind.i64) known ((l'.getD t15.toNat (0, 0, 0, 0, ())).fst, first.getD (Int.toNat (l'.getD t15.toNat (0, 0, 0, 0, ())).snd.fst) 0, first.getD (Int.toNat (l'.getD t15.toNat (0, 0, 0, 0, ())).snd.snd.fst) 0, 0, ()) t15) (first ++ [t15]) (own ++ [((l'.getD t15.toNat (0, 0, 0, 0, ())).fst, first.getD (Int.toNat (l'.getD t15.toNat (0, 0, 0, 0, ())).snd.fst) 0, first.getD (Int.toNat (l'.getD t15.toNat (0, 0, 0, 0, ())).snd.snd.fst) 0, 0, ())]) (IntKind.i64.wrap (t15 + 1))
                    else
                      none
                  else
                    none)) (bif bimp false ![t15].isEmpty && (first.length + [t15].length).ble lim then
                    bif bimp false ![((l'.getD t15.toNat (0, 0, 0, 0, ())).fst, first.getD (Int.toNat (l'.getD t15.toNat (0, 0, 0, 0, ())).snd.fst) 0, first.getD (Int.toNat (l'.getD t15.toNat (0, 0, 0, 0, ())).snd.snd.fst) 0, 0, ())].isEmpty && (own.length + [((l'.getD t15.toNat (0, 0, 0, 0, ())).fst, first.getD (Int.toNat (l'.getD t15.toNat (0, 0, 0, 0, ())).snd.fst) 0, first.getD (Int.toNat (l'.getD t15.toNat (0, 0, 0, 0, ())).snd.snd.fst) 0, 0, ())].length).ble lim then
                      g0 (insM ((Ty.int IntKind.i64).pair ((Ty.int IntKind.i64).pair ((Ty.int IntKind.i64).pair ((Ty.int IntKind.i64).pair Ty.unit)))) (Ty.int IntKind.i64) known ((l'.getD t15.toNat (0, 0, 0, 0, ())).fst, first.getD (Int.toNat (l'.getD t15.toNat (0, 0, 0, 0, ())).snd.fst) 0, first.getD (Int.toNat (l'.getD t15.toNat (0, 0, 0, 0, ())).snd.snd.fst) 0, 0, ()) t15) (first ++ [t15]) (own ++ [((l'.getD t15.toNat (0, 0, 0, 0, ())).fst, first.getD (Int.toNat (l'.getD t15.toNat (0, 0, 0, 0, ())).snd.fst) 0, first.getD (Int.toNat (l'.getD t15.toNat (0, 0, 0, 0, ())).snd.snd.fst) 0, 0, ())]) (IntKind.i64.wrap (t15 + 1))
                    else
                      none
                  else
                    none)
                else
                  both (both (bif bimp false ![(getM ((Ty.int IntKind.i64).pair ((Ty.int IntKind.i64).pair ((Ty.int IntKind.i64).pair ((Ty.int IntKind.i64).pair Ty.unit)))) (Ty.int IntKind.i64) known ((l'.getD t15.toNat (0, 0, 0, 0, ())).fst, first.getD (Int.toNat (l'.getD t15.toNat (0, 0, 0, 0, ())).snd.fst) 0, first.getD (Int.toNat (l'.getD t15.toNat (0, 0, 0, 0, ())).snd.snd.fst) 0, 0, ())).getD 0].isEmpty && (first.length + [(getM ((Ty.int IntKind.i64).pair ((Ty.int IntKind.i64).pair ((Ty.int IntKind.i64).pair ((Ty.int IntKind.i64).pair Ty.unit)))) (Ty.int IntKind.i64) known ((l'.getD t15.toNat (0, 0, 0, 0, ())).fst, first.getD (Int.toNat (l'.getD t15.toNat (0, 0, 0, 0, ())).snd.fst) 0, first.getD (Int.toNat (l'.getD t15.toNat (0, 0, 0, 0, ())).snd.snd.fst) 0, 0, ())).getD 0].length).ble lim then
                    bif bimp false ![((l'.getD t15.toNat (0, 0, 0, 0, ())).fst, first.getD (Int.toNat (l'.getD t15.toNat (0, 0, 0, 0, ())).snd.fst) 0, first.getD (Int.toNat (l'.getD t15.toNat (0, 0, 0, 0, ())).snd.snd.fst) 0, 0, ())].isEmpty && (own.length + [((l'.getD t15.toNat (0, 0, 0, 0, ())).fst, first.getD (Int.toNat (l'.getD t15.toNat (0, 0, 0, 0, ())).snd.fst) 0, first.getD (Int.toNat (l'.getD t15.toNat (0, 0, 0, 0, ())).snd.snd.fst) 0, 0, ())].length).ble lim then
                      g0 known (first ++ [(getM ((Ty.int IntKind.i64).pair ((Ty.int IntKind.i64).pair ((Ty.int IntKind.i64).pair ((Ty.int IntKind.i64).pair Ty.unit)))) (Ty.int IntKind.i64) known ((l'.getD t15.toNat (0, 0, 0, 0, ())).fst, first.getD (Int.toNat (l'.getD t15.toNat (0, 0, 0, 0, ())).snd.fst) 0, first.getD (Int.toNat (l'.getD t15.toNat (0, 0, 0, 0, ())).snd.snd.fst) 0, 0, ())).getD 0]) (own ++ [((l'.getD t15.toNat (0, 0, 0, 0, ())).fst, first.getD (Int.toNat (l'.getD t15.toNat (0, 0, 0, 0, ())).snd.fst) 0, first.getD (Int.toNat (l'.getD t15.toNat (0, 0, 0, 0, ())).snd.snd.fst) 0, 0, ())]) (IntKind.i64.wrap (t15 + 1))
                    else
                      none
                  else
                    none) (bif bimp false ![(getM ((Ty.int IntKind.i64).pair ((Ty.int IntKind.i64).pair ((Ty.int IntKind.i64).pair ((Ty.int IntKind.i64).pair Ty.unit)))) (Ty.int IntKind.i64) known ((l'.getD t15.toNat (0, 0, 0, 0, ())).fst, first.getD (Int.toNat (l'.getD t15.toNat (0, 0, 0, 0, ())).snd.fst) 0, first.getD (Int.toNat (l'.getD t15.toNat (0, 0, 0, 0, ())).snd.snd.fst) 0, 0, ())).getD 0].isEmpty && (first.length + [(getM ((Ty.int IntKind.i64).pair ((Ty.int IntKind.i64).pair ((Ty.int IntKind.i64).pair ((Ty.int IntKind.i64).pair Ty.unit)))) (Ty.int IntKind.i64) known ((l'.getD t15.toNat (0, 0, 0, 0, ())).fst, first.getD (Int.toNat (l'.getD t15.toNat (0, 0, 0, 0, ())).snd.fst) 0, first.getD (Int.toNat (l'.getD t15.toNat (0, 0, 0, 0, ())).snd.snd.fst) 0, 0, ())).getD 0].length).ble lim then
                    bif bimp false ![((l'.getD t15.toNat (0, 0, 0, 0, ())).fst, first.getD (Int.toNat (l'.getD t15.toNat (0, 0, 0, 0, ())).snd.fst) 0, first.getD (Int.toNat (l'.getD t15.toNat (0, 0, 0, 0, ())).snd.snd.fst) 0, 0, ())].isEmpty && (own.length + [((l'.getD t15.toNat (0, 0, 0, 0, ())).fst, first.getD (Int.toNat (l'.getD t15.toNat (0, 0, 0, 0, ())).snd.fst) 0, first.getD (Int.toNat (l'.getD t15.toNat (0, 0, 0, 0, ())).snd.snd.fst) 0, 0, ())].length).ble lim then
                      g0 known (first ++ [(getM ((Ty.int IntKind.i64).pair ((Ty.int IntKind.i64).pair ((Ty.int IntKind.i64).pair ((Ty.int IntKind.i64).pair Ty.unit)))) (Ty.int IntKind.i64) known ((l'.getD t15.toNat (0, 0, 0, 0, ())).fst, first.getD (Int.toNat (l'.getD t15.toNat (0, 0, 0, 0, ())).snd.fst) 0, first.getD (Int.toNat (l'.getD t15.toNat (0, 0, 0, 0, ())).snd.snd.fst) 0, 0, ())).getD 0]) (own ++ [((l'.getD t15.toNat (0, 0, 0, 0, ())).fst, first.getD (Int.toNat (l'.getD t15.toNat (0, 0, 0, 0, ())).snd.fst) 0, first.getD (Int.toNat (l'.getD t15.toNat (0, 0, 0, 0, ())).snd.snd.fst) 0, 0, ())]) (IntKind.i64.wrap (t15 + 1))
                    else
                      none
                  else
                    none)) (bif bimp false ![(getM ((Ty.int IntKind.i64).pair ((Ty.int IntKind.i64).pair ((Ty.int IntKind.i64).pair ((Ty.int IntKind.i64).pair Ty.unit)))) (Ty.int IntKind.i64) known ((l'.getD t15.toNat (0, 0, 0, 0, ())).fst, first.getD (Int.toNat (l'.getD t15.toNat (0, 0, 0, 0, ())).snd.fst) 0, first.getD (Int.toNat (l'.getD t15.toNat (0, 0, 0, 0, ())).snd.snd.fst) 0, 0, ())).getD 0].isEmpty && (first.length + [(getM ((Ty.int IntKind.i64).pair ((Ty.int IntKind.i64).pair ((Ty.int IntKind.i64).pair ((Ty.int IntKind.i64).pair Ty.unit)))) (Ty.int IntKind.i64) known ((l'.getD t15.toNat (0, 0, 0, 0, ())).fst, first.getD (Int.toNat (l'.getD t15.toNat (0, 0, 0, 0, ())).snd.fst) 0, first.getD (Int.toNat (l'.getD t15.toNat (0, 0, 0, 0, ())).snd.snd.fst) 0, 0, ())).getD 0].length).ble lim then
                    bif bimp false ![((l'.getD t15.toNat (0, 0, 0, 0, ())).fst, first.getD (Int.toNat (l'.getD t15.toNat (0, 0, 0, 0, ())).snd.fst) 0, first.getD (Int.toNat (l'.getD t15.toNat (0, 0, 0, 0, ())).snd.snd.fst) 0, 0, ())].isEmpty && (own.length + [((l'.getD t15.toNat (0, 0, 0, 0, ())).fst, first.getD (Int.toNat (l'.getD t15.toNat (0, 0, 0, 0, ())).snd.fst) 0, first.getD (Int.toNat (l'.getD t15.toNat (0, 0, 0, 0, ())).snd.snd.fst) 0, 0, ())].length).ble lim then
                      g0 known (first ++ [(getM ((Ty.int IntKind.i64).pair ((Ty.int IntKind.i64).pair ((Ty.int IntKind.i64).pair ((Ty.int IntKind.i64).pair Ty.unit)))) (Ty.int IntKind.i64) known ((l'.getD t15.toNat (0, 0, 0, 0, ())).fst, first.getD (Int.toNat (l'.getD t15.toNat (0, 0, 0, 0, ())).snd.fst) 0, first.getD (Int.toNat (l'.getD t15.toNat (0, 0, 0, 0, ())).snd.snd.fst) 0, 0, ())).getD 0]) (own ++ [((l'.getD t15.toNat (0, 0, 0, 0, ())).fst, first.getD (Int.toNat (l'.getD t15.toNat (0, 0, 0, 0, ())).snd.fst) 0, first.getD (Int.toNat (l'.getD t15.toNat (0, 0, 0, 0, ())).snd.snd.fst) 0, 0, ())]) (IntKind.i64.wrap (t15 + 1))
                    else
                      none
                  else
                    none)
          else
            none
        else
          none
      else
        bif !(getM ((Ty.int IntKind.i64).pair ((Ty.int IntKind.i64).pair ((Ty.int IntKind.i64).pair ((Ty.int IntKind.i64).pair Ty.unit)))) (Ty.int IntKind.i64) known ((l'.getD t15.toNat (0, 0, 0, 0, ())).fst, 0, 0, (l'.getD t15.toNat (0, 0, 0, 0, ())).snd.snd.snd.fst, ())).isSome then
          both (both (bif bimp false ![t15].isEmpty && (first.length + [t15].length).ble lim then
            bif bimp false ![((l'.getD t15.toNat (0, 0, 0, 0, ())).fst, 0, 0, (l'.getD t15.toNat (0, 0, 0, 0, ())).snd.snd.snd.fst, ())].isEmpty && (own.length + [((l'.getD t15.toNat (0, 0, 0, 0, ())).fst, 0, 0, (l'.getD t15.toNat (0, 0, 0, 0, ())).snd.snd.snd.fst, ())].length).ble lim then
              g0 (insM ((Ty.int IntKind.i64).pair ((Ty.int IntKind.i64).pair ((Ty.int IntKind.i64).pair ((Ty.int IntKind.i64).pair Ty.unit)))) (Ty.int IntKind.i64) known ((l'.getD t15.toNat (0, 0, 0, 0, ())).fst, 0, 0, (l'.getD t15.toNat (0, 0, 0, 0, ())).snd.snd.snd.fst, ()) t15) (first ++ [t15]) (own ++ [((l'.getD t15.toNat (0, 0, 0, 0, ())).fst, 0, 0, (l'.getD t15.toNat (0, 0, 0, 0, ())).snd.snd.snd.fst, ())]) (IntKind.i64.wrap (t15 + 1))
            else
              none
          else
            none) (bif bimp false ![t15].isEmpty && (first.length + [t15].length).ble lim then
            bif bimp false ![((l'.getD t15.toNat (0, 0, 0, 0, ())).fst, 0, 0, (l'.getD t15.toNat (0, 0, 0, 0, ())).snd.snd.snd.fst, ())].isEmpty && (own.length + [((l'.getD t15.toNat (0, 0, 0, 0, ())).fst, 0, 0, (l'.getD t15.toNat (0, 0, 0, 0, ())).snd.snd.snd.fst, ())].length).ble lim then
              g0 (insM ((Ty.int IntKind.i64).pair ((Ty.int IntKind.i64).pair ((Ty.int IntKind.i64).pair ((Ty.int IntKind.i64).pair Ty.unit)))) (Ty.int IntKind.i64) known ((l'.getD t15.toNat (0, 0, 0, 0, ())).fst, 0, 0, (l'.getD t15.toNat (0, 0, 0, 0, ())).snd.snd.snd.fst, ()) t15) (first ++ [t15]) (own ++ [((l'.getD t15.toNat (0, 0, 0, 0, ())).fst, 0, 0, (l'.getD t15.toNat (0, 0, 0, 0, ())).snd.snd.snd.fst, ())]) (IntKind.i64.wrap (t15 + 1))
            else
              none
          else
            none)) (bif bimp false ![t15].isEmpty && (first.length + [t15].length).ble lim then
            bif bimp false ![((l'.getD t15.toNat (0, 0, 0, 0, ())).fst, 0, 0, (l'.getD t15.toNat (0, 0, 0, 0, ())).snd.snd.snd.fst, ())].isEmpty && (own.length + [((l'.getD t15.toNat (0, 0, 0, 0, ())).fst, 0, 0, (l'.getD t15.toNat (0, 0, 0, 0, ())).snd.snd.snd.fst, ())].length).ble lim then
              g0 (insM ((Ty.int IntKind.i64).pair ((Ty.int IntKind.i64).pair ((Ty.int IntKind.i64).pair ((Ty.int IntKind.i64).pair Ty.unit)))) (Ty.int IntKind.i64) known ((l'.getD t15.toNat (0, 0, 0, 0, ())).fst, 0, 0, (l'.getD t15.toNat (0, 0, 0, 0, ())).snd.snd.snd.fst, ()) t15) (first ++ [t15]) (own ++ [((l'.getD t15.toNat (0, 0, 0, 0, ())).fst, 0, 0, (l'.getD t15.toNat (0, 0, 0, 0, ())).snd.snd.snd.fst, ())]) (IntKind.i64.wrap (t15 + 1))
            else
              none
          else
            none)
        else
          both (both (bif bimp false ![(getM ((Ty.int IntKind.i64).pair ((Ty.int IntKind.i64).pair ((Ty.int IntKind.i64).pair ((Ty.int IntKind.i64).pair Ty.unit)))) (Ty.int IntKind.i64) known ((l'.getD t15.toNat (0, 0, 0, 0, ())).fst, 0, 0, (l'.getD t15.toNat (0, 0, 0, 0, ())).snd.snd.snd.fst, ())).getD 0].isEmpty && (first.length + [(getM ((Ty.int IntKind.i64).pair ((Ty.int IntKind.i64).pair ((Ty.int IntKind.i64).pair ((Ty.int IntKind.i64).pair Ty.unit)))) (Ty.int IntKind.i64) known ((l'.getD t15.toNat (0, 0, 0, 0, ())).fst, 0, 0, (l'.getD t15.toNat (0, 0, 0, 0, ())).snd.snd.snd.fst, ())).getD 0].length).ble lim then
            bif bimp false ![((l'.getD t15.toNat (0, 0, 0, 0, ())).fst, 0, 0, (l'.getD t15.toNat (0, 0, 0, 0, ())).snd.snd.snd.fst, ())].isEmpty && (own.length + [((l'.getD t15.toNat (0, 0, 0, 0, ())).fst, 0, 0, (l'.getD t15.toNat (0, 0, 0, 0, ())).snd.snd.snd.fst, ())].length).ble lim then
              g0 known (first ++ [(getM ((Ty.int IntKind.i64).pair ((Ty.int IntKind.i64).pair ((Ty.int IntKind.i64).pair ((Ty.int IntKind.i64).pair Ty.unit)))) (Ty.int IntKind.i64) known ((l'.getD t15.toNat (0, 0, 0, 0, ())).fst, 0, 0, (l'.getD t15.toNat (0, 0, 0, 0, ())).snd.snd.snd.fst, ())).getD 0]) (own ++ [((l'.getD t15.toNat (0, 0, 0, 0, ())).fst, 0, 0, (l'.getD t15.toNat (0, 0, 0, 0, ())).snd.snd.snd.fst, ())]) (IntKind.i64.wrap (t15 + 1))
            else
              none
          else
            none) (bif bimp false ![(getM ((Ty.int IntKind.i64).pair ((Ty.int IntKind.i64).pair ((Ty.int IntKind.i64).pair ((Ty.int IntKind.i64).pair Ty.unit)))) (Ty.int IntKind.i64) known ((l'.getD t15.toNat (0, 0, 0, 0, ())).fst, 0, 0, (l'.getD t15.toNat (0, 0, 0, 0, ())).snd.snd.snd.fst, ())).getD 0].isEmpty && (first.length + [(getM ((Ty.int IntKind.i64).pair ((Ty.int IntKind.i64).pair ((Ty.int IntKind.i64).pair ((Ty.int IntKind.i64).pair Ty.unit)))) (Ty.int IntKind.i64) known ((l'.getD t15.toNat (0, 0, 0, 0, ())).fst, 0, 0, (l'.getD t15.toNat (0, 0, 0, 0, ())).snd.snd.snd.fst, ())).getD 0].length).ble lim then
            bif bimp false ![((l'.getD t15.toNat (0, 0, 0, 0, ())).fst, 0, 0, (l'.getD t15.toNat (0, 0, 0, 0, ())).snd.snd.snd.fst, ())].isEmpty && (own.length + [((l'.getD t15.toNat (0, 0, 0, 0, ())).fst, 0, 0, (l'.getD t15.toNat (0, 0, 0, 0, ())).snd.snd.snd.fst, ())].length).ble lim then
              g0 known (first ++ [(getM ((Ty.int IntKind.i64).pair ((Ty.int IntKind.i64).pair ((Ty.int IntKind.i64).pair ((Ty.int IntKind.i64).pair Ty.unit)))) (Ty.int IntKind.i64) known ((l'.getD t15.toNat (0, 0, 0, 0, ())).fst, 0, 0, (l'.getD t15.toNat (0, 0, 0, 0, ())).snd.snd.snd.fst, ())).getD 0]) (own ++ [((l'.getD t15.toNat (0, 0, 0, 0, ())).fst, 0, 0, (l'.getD t15.toNat (0, 0, 0, 0, ())).snd.snd.snd.fst, ())]) (IntKind.i64.wrap (t15 + 1))
            else
              none
          else
            none)) (bif bimp false ![(getM ((Ty.int IntKind.i64).pair ((Ty.int IntKind.i64).pair ((Ty.int IntKind.i64).pair ((Ty.int IntKind.i64).pair Ty.unit)))) (Ty.int IntKind.i64) known ((l'.getD t15.toNat (0, 0, 0, 0, ())).fst, 0, 0, (l'.getD t15.toNat (0, 0, 0, 0, ())).snd.snd.snd.fst, ())).getD 0].isEmpty && (first.length + [(getM ((Ty.int IntKind.i64).pair ((Ty.int IntKind.i64).pair ((Ty.int IntKind.i64).pair ((Ty.int IntKind.i64).pair Ty.unit)))) (Ty.int IntKind.i64) known ((l'.getD t15.toNat (0, 0, 0, 0, ())).fst, 0, 0, (l'.getD t15.toNat (0, 0, 0, 0, ())).snd.snd.snd.fst, ())).getD 0].length).ble lim then
            bif bimp false ![((l'.getD t15.toNat (0, 0, 0, 0, ())).fst, 0, 0, (l'.getD t15.toNat (0, 0, 0, 0, ())).snd.snd.snd.fst, ())].isEmpty && (own.length + [((l'.getD t15.toNat (0, 0, 0, 0, ())).fst, 0, 0, (l'.getD t15.toNat (0, 0, 0, 0, ())).snd.snd.snd.fst, ())].length).ble lim then
              g0 known (first ++ [(getM ((Ty.int IntKind.i64).pair ((Ty.int IntKind.i64).pair ((Ty.int IntKind.i64).pair ((Ty.int IntKind.i64).pair Ty.unit)))) (Ty.int IntKind.i64) known ((l'.getD t15.toNat (0, 0, 0, 0, ())).fst, 0, 0, (l'.getD t15.toNat (0, 0, 0, 0, ())).snd.snd.snd.fst, ())).getD 0]) (own ++ [((l'.getD t15.toNat (0, 0, 0, 0, ())).fst, 0, 0, (l'.getD t15.toNat (0, 0, 0, 0, ())).snd.snd.snd.fst, ())]) (IntKind.i64.wrap (t15 + 1))
            else
              none
          else
            none)
    else
      none
  else
    some ((first, own, ()))
def value_numbers_p (nf : Nat) (l0 : List (Int × Int × Int × Int × Unit) → List ((Int × Int × Int × Int × Unit) × Int) → List Int → List (Int × Int × Int × Int × Unit) → Int → Option (List Int × List (Int × Int × Int × Int × Unit) × Unit)) (l' : List (Int × Int × Int × Int × Unit)) : Option (List Int × List (Int × Int × Int × Int × Unit) × Unit) :=
  l0 l' [] [] [] 0
def value_numbers_l0 (nf : Nat) (l' : List (Int × Int × Int × Int × Unit)) : Nat → List ((Int × Int × Int × Int × Unit) × Int) → List Int → List (Int × Int × Int × Int × Unit) → Int → Option (List Int × List (Int × Int × Int × Int × Unit) × Unit)
  | 0, _, _, _, _ => none
  | fu + 1, known, first, own, t15 => value_numbers_b0 nf  l'  (value_numbers_l0 nf l'  fu) known first own t15
def value_numbers_f (nf : Nat) (l' : List (Int × Int × Int × Int × Unit)) : Option (List Int × List (Int × Int × Int × Int × Unit) × Unit) := value_numbers_p nf (fun p0 v0 v1 v2 v3 => value_numbers_l0 nf p0 nf v0 v1 v2 v3) l'
noncomputable def value_numbers_L0 (nf : Nat) : LC (List Int × List (Int × Int × Int × Int × Unit) × Unit) := theL (findL tab (value_numbers_phi nf) (fun _ F => iter nf F) value_numbers_keep 0 0 (codeOf Try.f78) (fin tab [((Ty.int IntKind.i64).sl, Md.own false (Md.bor false false)), (((Ty.int IntKind.i64).pair ((Ty.int IntKind.i64).pair ((Ty.int IntKind.i64).pair ((Ty.int IntKind.i64).pair Ty.unit)))).sl, Md.own false (Md.bor false false))] (resL ([]) Try.f78)) (fun _ _ => none) (fin tab [((Ty.int IntKind.i64).sl, Md.own false (Md.bor false false)), (((Ty.int IntKind.i64).pair ((Ty.int IntKind.i64).pair ((Ty.int IntKind.i64).pair ((Ty.int IntKind.i64).pair Ty.unit)))).sl, Md.own false (Md.bor false false))] (resL ([]) Try.f78)))
def value_numbers_m0 (l' : List (Int × Int × Int × Int × Unit)) (known : List ((Int × Int × Int × Int × Unit) × Int)) (first : List Int) (own : List (Int × Int × Int × Int × Unit)) (t15 : Int) : St := ⟨fresh, [(0, AV.v ((Ty.int IntKind.i64).pair ((Ty.int IntKind.i64).pair ((Ty.int IntKind.i64).pair ((Ty.int IntKind.i64).pair Ty.unit)))).sl (Md.bor true false) l'), (4, AV.ow 500004 (((Ty.int IntKind.i64).pair ((Ty.int IntKind.i64).pair ((Ty.int IntKind.i64).pair ((Ty.int IntKind.i64).pair Ty.unit)))).mp (Ty.int IntKind.i64)) (Md.own true (Md.bor false false)) known), (5, AV.ow 500005 (Ty.int IntKind.i64).sl (Md.own false (Md.bor false false)) first), (6, AV.ow 500006 ((Ty.int IntKind.i64).pair ((Ty.int IntKind.i64).pair ((Ty.int IntKind.i64).pair ((Ty.int IntKind.i64).pair Ty.unit)))).sl (Md.own false (Md.bor false false)) own), (12, AV.dead), (13, AV.v ((Ty.int IntKind.i64).pair ((Ty.int IntKind.i64).pair ((Ty.int IntKind.i64).pair ((Ty.int IntKind.i64).pair Ty.unit)))).sl (Md.bor true false) l'), (14, AV.v (Ty.int IntKind.i64) (Md.bor false true) (↑l'.length : Int)), (15, AV.v (Ty.int IntKind.i64) (Md.bor false true) t15), (76, AV.dead), (80, AV.dead)]⟩
theorem value_numbers_h0 (nf : Nat)  (l' : List (Int × Int × Int × Int × Unit)) (fu : Nat) (known : List ((Int × Int × Int × Int × Unit) × Int)) (first : List Int) (own : List (Int × Int × Int × Int × Unit)) (t15 : Int) : iter (fu + 1) (LC.F tab (value_numbers_phi nf) (fun _ F => iter nf F) value_numbers_keep 0 (value_numbers_L0 nf )) (value_numbers_m0 l' known first own t15) = value_numbers_b0 nf  l'  (fun known first own t15 => iter fu (LC.F tab (value_numbers_phi nf) (fun _ F => iter nf F) value_numbers_keep 0 (value_numbers_L0 nf )) (value_numbers_m0 l' known first own t15)) known first own t15 := by kernel_rfl
theorem value_numbers_e0 (nf : Nat)  (l' : List (Int × Int × Int × Int × Unit)) : ∀ (fu : Nat) (known : List ((Int × Int × Int × Int × Unit) × Int)) (first : List Int) (own : List (Int × Int × Int × Int × Unit)) (t15 : Int), iter fu (LC.F tab (value_numbers_phi nf) (fun _ F => iter nf F) value_numbers_keep 0 (value_numbers_L0 nf )) (value_numbers_m0 l' known first own t15) = value_numbers_l0 nf l'  fu known first own t15 := by
  intro fu
  induction fu with
  | zero => intros; rfl
  | succ fu ih =>
    intro known first own t15
    rw [value_numbers_h0 nf  l' fu known first own t15]
    simp only [ih]
    rfl
theorem value_numbers_eq (nf : Nat) (l' : List (Int × Int × Int × Int × Unit)) : runF tab (value_numbers_phi nf) value_numbers_keep nf [PT.val ((Ty.int IntKind.i64).pair ((Ty.int IntKind.i64).pair ((Ty.int IntKind.i64).pair ((Ty.int IntKind.i64).pair Ty.unit)))).sl (Md.bor true false)] [((Ty.int IntKind.i64).sl, Md.own false (Md.bor false false)), (((Ty.int IntKind.i64).pair ((Ty.int IntKind.i64).pair ((Ty.int IntKind.i64).pair ((Ty.int IntKind.i64).pair Ty.unit)))).sl, Md.own false (Md.bor false false))] (resL ([]) Try.f78) (codeOf Try.f78) ⟨l', ()⟩ = value_numbers_f nf l' := by
  have h : runF tab (value_numbers_phi nf) value_numbers_keep nf [PT.val ((Ty.int IntKind.i64).pair ((Ty.int IntKind.i64).pair ((Ty.int IntKind.i64).pair ((Ty.int IntKind.i64).pair Ty.unit)))).sl (Md.bor true false)] [((Ty.int IntKind.i64).sl, Md.own false (Md.bor false false)), (((Ty.int IntKind.i64).pair ((Ty.int IntKind.i64).pair ((Ty.int IntKind.i64).pair ((Ty.int IntKind.i64).pair Ty.unit)))).sl, Md.own false (Md.bor false false))] (resL ([]) Try.f78) (codeOf Try.f78) ⟨l', ()⟩ = value_numbers_p nf (fun p0 v0 v1 v2 v3 => iter nf (LC.F tab (value_numbers_phi nf) (fun _ F => iter nf F) value_numbers_keep 0 (value_numbers_L0 nf)) (value_numbers_m0 p0 v0 v1 v2 v3)) l' := by kernel_rfl
  rw [h]
  simp only [value_numbers_e0]
  rfl
def value_numbers_F (nf : Nat) (x : denPs [.val (.sl (.pair (.int .i64) (.pair (.int .i64) (.pair (.int .i64) (.pair (.int .i64) (.unit)))))) (.bor true false)]) : Option (denL [(.sl (.int .i64), .own false (.bor false false)), (.sl (.pair (.int .i64) (.pair (.int .i64) (.pair (.int .i64) (.pair (.int .i64) (.unit))))), .own false (.bor false false))]) := value_numbers_f nf x.1
def value_numbers_C (nf : Nat) : Contract := ⟨[.val (.sl (.pair (.int .i64) (.pair (.int .i64) (.pair (.int .i64) (.pair (.int .i64) (.unit)))))) (.bor true false)], [(.sl (.int .i64), .own false (.bor false false)), (.sl (.pair (.int .i64) (.pair (.int .i64) (.pair (.int .i64) (.pair (.int .i64) (.unit))))), .own false (.bor false false))], value_numbers_F nf, []⟩
theorem value_numbers_ok : FnOK Try.prog 78 := ⟨Try.f78, codeOf Try.f78, Try.func78, by kernel_rfl, by kernel_rfl⟩
theorem value_numbers_holds (nf : Nat) : Contract.Holds Try.prog 78 (value_numbers_C nf) :=
  fn_holds (Φ := value_numbers_phi nf) (keep := value_numbers_keep) (n := nf) ⟨tabs.1, tabs.2, ctx_nil, mixed, bk_ok bkls rfl⟩ (fn := Try.f78) ⟨Try.func78, by kernel_rfl, by kernel_rfl, by kernel_rfl⟩ (fun x => value_numbers_eq nf x.1)

/-! codemason value.Least -/
def value_Least_phi (nf : Nat) : Nat → Option Contract := lookC [(20, term_Check_C nf), (78, value_numbers_C nf)]
def value_Least_keep : Nat → List Nat := lookK [(2, [8, 9, 11, 12, 21, 23, 25, 28, 72, 73, 74, 75, 108]), (0, [1, 8, 9, 10, 21, 23, 25, 28, 108])]
def value_Least_b0 (nf : Nat) (l2 : List (Int × Int × Int × Int × Unit) → List (Int × Int × Int × Int × Unit) → List Bool → List Int → List (Int × Int × Int × Int × Unit) → Int → Option (List (Int × Int × Int × Int × Unit) × Int × Unit)) (l' : List (Int × Int × Int × Int × Unit)) (g0 : List (Int × Int × Int × Int × Unit) → List Bool → Int → Option (List (Int × Int × Int × Int × Unit) × Int × Unit)) (own : List (Int × Int × Int × Int × Unit)) (need : List Bool) (i : Int) : Option (List (Int × Int × Int × Int × Unit) × Int × Unit) :=
  bif decide (i ≥ 0) then
    bif inb i need.length then
      bif need.getD i.toNat false then
        bif inb i own.length then
          bif decide ((own.getD i.toNat (0, 0, 0, 0, ())).fst > 2) then
            bif inb i own.length then
              bif inb i own.length then
                bif inb (own.getD i.toNat (0, 0, 0, 0, ())).snd.fst need.length then
                  bif inb (own.getD i.toNat (0, 0, 0, 0, ())).snd.snd.fst (need.set (Int.toNat (own.getD i.toNat (0, 0, 0, 0, ())).snd.fst) true).length then
                    g0 own ((need.set (Int.toNat (own.getD i.toNat (0, 0, 0, 0, ())).snd.fst) true).set (Int.toNat (own.getD i.toNat (0, 0, 0, 0, ())).snd.snd.fst) true) (IntKind.i64.wrap (i - 1))
                  else
                    none
                else
                  none
              else
                none
            else
              none
          else
            g0 own need (IntKind.i64.wrap (i - 1))
        else
          none
      else
        g0 own need (IntKind.i64.wrap (i - 1))
    else
      none
  else
    bif decide (0 ≤ (↑l'.length : Int)) && decide ((↑l'.length : Int) ≤ (↑l'.length : Int)) && decide ((↑l'.length : Int) ≤ (↑lim : Int)) then
      l2 own own need (List.replicate (↑l'.length : Int).toNat 0) [] 0
    else
      none
def value_Least_b2 (nf : Nat) (own : List (Int × Int × Int × Int × Unit)) (g2 : List (Int × Int × Int × Int × Unit) → List Bool → List Int → List (Int × Int × Int × Int × Unit) → Int → Option (List (Int × Int × Int × Int × Unit) × Int × Unit)) (own2 : List (Int × Int × Int × Int × Unit)) (need2 : List Bool) (number : List Int) (out : List (Int × Int × Int × Int × Unit)) (t75 : Int) : Option (List (Int × Int × Int × Int × Unit) × Int × Unit) :=
  bif decide (t75 < (↑own.length : Int)) then
    bif inb t75 own2.length then
      bif inb t75 need2.length then
        bif !need2.getD t75.toNat false then
          g2 own2 need2 number out (IntKind.i64.wrap (t75 + 1))
        else
          bif inb t75 number.length then
            bif decide ((own2.getD t75.toNat (0, 0, 0, 0, ())).fst > 2) then
              bif inb (own2.getD t75.toNat (0, 0, 0, 0, ())).snd.fst (number.set t75.toNat (↑out.length : Int)).length then
                bif inb (own2.getD t75.toNat (0, 0, 0, 0, ())).snd.snd.fst (number.set t75.toNat (↑out.length : Int)).length then
                  bif bimp false ![((own2.getD t75.toNat (0, 0, 0, 0, ())).fst, (number.set t75.toNat (↑out.length : Int)).getD (Int.toNat (own2.getD t75.toNat (0, 0, 0, 0, ())).snd.fst) 0, (number.set t75.toNat (↑out.length : Int)).getD (Int.toNat (own2.getD t75.toNat (0, 0, 0, 0, ())).snd.snd.fst) 0, (own2.getD t75.toNat (0, 0, 0, 0, ())).snd.snd.snd)].isEmpty && (out.length + [((own2.getD t75.toNat (0, 0, 0, 0, ())).fst, (number.set t75.toNat (↑out.length : Int)).getD (Int.toNat (own2.getD t75.toNat (0, 0, 0, 0, ())).snd.fst) 0, (number.set t75.toNat (↑out.length : Int)).getD (Int.toNat (own2.getD t75.toNat (0, 0, 0, 0, ())).snd.snd.fst) 0, (own2.getD t75.toNat (0, 0, 0, 0, ())).snd.snd.snd)].length).ble lim then
                    g2 own2 need2 (number.set t75.toNat (↑out.length : Int)) (out ++ [((own2.getD t75.toNat (0, 0, 0, 0, ())).fst, (number.set t75.toNat (↑out.length : Int)).getD (Int.toNat (own2.getD t75.toNat (0, 0, 0, 0, ())).snd.fst) 0, (number.set t75.toNat (↑out.length : Int)).getD (Int.toNat (own2.getD t75.toNat (0, 0, 0, 0, ())).snd.snd.fst) 0, (own2.getD t75.toNat (0, 0, 0, 0, ())).snd.snd.snd)]) (IntKind.i64.wrap (t75 + 1))
                  else
                    none
                else
                  none
              else
                none
            else
              bif bimp false ![own2.getD t75.toNat (0, 0, 0, 0, ())].isEmpty && (out.length + [own2.getD t75.toNat (0, 0, 0, 0, ())].length).ble lim then
                g2 own2 need2 (number.set t75.toNat (↑out.length : Int)) (out ++ [own2.getD t75.toNat (0, 0, 0, 0, ())]) (IntKind.i64.wrap (t75 + 1))
              else
                none
          else
            none
      else
        none
    else
      none
  else
    some ((out, 0, ()))
def value_Least_p (nf : Nat) (l0 : List (Int × Int × Int × Int × Unit) → List (Int × Int × Int × Int × Unit) → List Bool → Int → Option (List (Int × Int × Int × Int × Unit) × Int × Unit)) (vars : Int) (l' : List (Int × Int × Int × Int × Unit)) : Option (List (Int × Int × Int × Int × Unit) × Int × Unit) :=
  Option.bind (term_Check_f nf vars l') fun r =>
  bif r.fst != 0 then
    some (([], r.fst, ()))
  else
    Option.bind (value_numbers_f nf l') fun r2 =>
    bif decide (0 ≤ (↑l'.length : Int)) && decide ((↑l'.length : Int) ≤ (↑l'.length : Int)) && decide ((↑l'.length : Int) ≤ (↑lim : Int)) then
      bif inb (IntKind.i64.wrap ((↑l'.length : Int) - 1)) (List.length r2.fst) then
        bif inb (List.getD r2.fst (IntKind.i64.wrap ((↑l'.length : Int) - 1)).toNat 0) (List.replicate (↑l'.length : Int).toNat false).length then
          l0 l' r2.snd.fst ((List.replicate (↑l'.length : Int).toNat false).set (Int.toNat (List.getD r2.fst (IntKind.i64.wrap ((↑l'.length : Int) - 1)).toNat 0)) true) (IntKind.i64.wrap ((↑l'.length : Int) - 1))
        else
          none
      else
        none
    else
      none
def value_Least_l2 (nf : Nat) (own : List (Int × Int × Int × Int × Unit)) : Nat → List (Int × Int × Int × Int × Unit) → List Bool → List Int → List (Int × Int × Int × Int × Unit) → Int → Option (List (Int × Int × Int × Int × Unit) × Int × Unit)
  | 0, _, _, _, _, _ => none
  | fu + 1, own2, need2, number, out, t75 => value_Least_b2 nf  own  (value_Least_l2 nf own  fu) own2 need2 number out t75
def value_Least_l0 (nf : Nat) (l' : List (Int × Int × Int × Int × Unit)) : Nat → List (Int × Int × Int × Int × Unit) → List Bool → Int → Option (List (Int × Int × Int × Int × Unit) × Int × Unit)
  | 0, _, _, _ => none
  | fu + 1, own, need, i => value_Least_b0 nf (fun p0 v0 v1 v2 v3 v4 => value_Least_l2 nf p0  nf v0 v1 v2 v3 v4) l'  (value_Least_l0 nf l'  fu) own need i
def value_Least_f (nf : Nat) (vars : Int) (l' : List (Int × Int × Int × Int × Unit)) : Option (List (Int × Int × Int × Int × Unit) × Int × Unit) := value_Least_p nf (fun p0 v0 v1 v2 => value_Least_l0 nf p0 nf v0 v1 v2) vars l'
noncomputable def value_Least_L0 (nf : Nat) : LC (List (Int × Int × Int × Int × Unit) × Int × Unit) := theL (findL tab (value_Least_phi nf) (fun _ F => iter nf F) value_Least_keep 0 0 (codeOf Try.f52) (fin tab [(((Ty.int IntKind.i64).pair ((Ty.int IntKind.i64).pair ((Ty.int IntKind.i64).pair ((Ty.int IntKind.i64).pair Ty.unit)))).sl, Md.own false (Md.bor false false)), (Ty.int IntKind.i64, Md.bor false true)] (resL ([]) Try.f52)) (fun _ _ => none) (fin tab [(((Ty.int IntKind.i64).pair ((Ty.int IntKind.i64).pair ((Ty.int IntKind.i64).pair ((Ty.int IntKind.i64).pair Ty.unit)))).sl, Md.own false (Md.bor false false)), (Ty.int IntKind.i64, Md.bor false true)] (resL ([]) Try.f52)))
def value_Least_m0 (l' : List (Int × Int × Int × Int × Unit)) (own : List (Int × Int × Int × Int × Unit)) (need : List Bool) (i : Int) : St := ⟨fresh, [(1, AV.v ((Ty.int IntKind.i64).pair ((Ty.int IntKind.i64).pair ((Ty.int IntKind.i64).pair ((Ty.int IntKind.i64).pair Ty.unit)))).sl (Md.bor true false) l'), (8, AV.ow 500008 ((Ty.int IntKind.i64).pair ((Ty.int IntKind.i64).pair ((Ty.int IntKind.i64).pair ((Ty.int IntKind.i64).pair Ty.unit)))).sl (Md.own false (Md.bor false false)) own), (9, AV.ow 500009 Ty.bool.sl (Md.own false (Md.bor false false)) need), (10, AV.v (Ty.int IntKind.i64) (Md.bor false true) i), (21, AV.dead), (23, AV.dead), (25, AV.dead), (28, AV.dead), (108, AV.dead)]⟩
noncomputable def value_Least_L2 (nf : Nat) : LC (List (Int × Int × Int × Int × Unit) × Int × Unit) := theL (findL tab (value_Least_phi nf) (fun _ F => iter nf F) value_Least_keep 2 0 (codeOf Try.f52) (fin tab [(((Ty.int IntKind.i64).pair ((Ty.int IntKind.i64).pair ((Ty.int IntKind.i64).pair ((Ty.int IntKind.i64).pair Ty.unit)))).sl, Md.own false (Md.bor false false)), (Ty.int IntKind.i64, Md.bor false true)] (resL ([]) Try.f52)) (fun _ _ => none) (fin tab [(((Ty.int IntKind.i64).pair ((Ty.int IntKind.i64).pair ((Ty.int IntKind.i64).pair ((Ty.int IntKind.i64).pair Ty.unit)))).sl, Md.own false (Md.bor false false)), (Ty.int IntKind.i64, Md.bor false true)] (resL ([]) Try.f52)))
def value_Least_m2 (own : List (Int × Int × Int × Int × Unit)) (own2 : List (Int × Int × Int × Int × Unit)) (need2 : List Bool) (number : List Int) (out : List (Int × Int × Int × Int × Unit)) (t75 : Int) : St := ⟨fresh, [(8, AV.ow 500008 ((Ty.int IntKind.i64).pair ((Ty.int IntKind.i64).pair ((Ty.int IntKind.i64).pair ((Ty.int IntKind.i64).pair Ty.unit)))).sl (Md.own false (Md.bor false false)) own2), (9, AV.ow 500009 Ty.bool.sl (Md.own false (Md.bor false false)) need2), (11, AV.ow 500011 (Ty.int IntKind.i64).sl (Md.own false (Md.bor false false)) number), (12, AV.ow 500012 ((Ty.int IntKind.i64).pair ((Ty.int IntKind.i64).pair ((Ty.int IntKind.i64).pair ((Ty.int IntKind.i64).pair Ty.unit)))).sl (Md.own false (Md.bor false false)) out), (21, AV.dead), (23, AV.dead), (25, AV.dead), (28, AV.dead), (72, AV.dead), (73, AV.al 8 500008 []), (74, AV.v (Ty.int IntKind.i64) (Md.bor false true) (↑own.length : Int)), (75, AV.v (Ty.int IntKind.i64) (Md.bor false true) t75), (108, AV.dead)]⟩
theorem value_Least_h2 (nf : Nat)  (own : List (Int × Int × Int × Int × Unit)) (fu : Nat) (own2 : List (Int × Int × Int × Int × Unit)) (need2 : List Bool) (number : List Int) (out : List (Int × Int × Int × Int × Unit)) (t75 : Int) : iter (fu + 1) (LC.F tab (value_Least_phi nf) (fun _ F => iter nf F) value_Least_keep 2 (value_Least_L2 nf )) (value_Least_m2 own own2 need2 number out t75) = value_Least_b2 nf  own  (fun own2 need2 number out t75 => iter fu (LC.F tab (value_Least_phi nf) (fun _ F => iter nf F) value_Least_keep 2 (value_Least_L2 nf )) (value_Least_m2 own own2 need2 number out t75)) own2 need2 number out t75 := by kernel_rfl
theorem value_Least_e2 (nf : Nat)  (own : List (Int × Int × Int × Int × Unit)) : ∀ (fu : Nat) (own2 : List (Int × Int × Int × Int × Unit)) (need2 : List Bool) (number : List Int) (out : List (Int × Int × Int × Int × Unit)) (t75 : Int), iter fu (LC.F tab (value_Least_phi nf) (fun _ F => iter nf F) value_Least_keep 2 (value_Least_L2 nf )) (value_Least_m2 own own2 need2 number out t75) = value_Least_l2 nf own  fu own2 need2 number out t75 := by
  intro fu
  induction fu with
  | zero => intros; rfl
  | succ fu ih =>
    intro own2 need2 number out t75
    rw [value_Least_h2 nf  own fu own2 need2 number out t75]
    simp only [ih]
    rfl
theorem value_Least_h0 (nf : Nat)  (l' : List (Int × Int × Int × Int × Unit)) (fu : Nat) (own : List (Int × Int × Int × Int × Unit)) (need : List Bool) (i : Int) : iter (fu + 1) (LC.F tab (value_Least_phi nf) (fun _ F => iter nf F) value_Least_keep 0 (value_Least_L0 nf )) (value_Least_m0 l' own need i) = value_Least_b0 nf (fun p0 v0 v1 v2 v3 v4 => iter nf (LC.F tab (value_Least_phi nf) (fun _ F => iter nf F) value_Least_keep 2 (value_Least_L2 nf )) (value_Least_m2 p0 v0 v1 v2 v3 v4)) l'  (fun own need i => iter fu (LC.F tab (value_Least_phi nf) (fun _ F => iter nf F) value_Least_keep 0 (value_Least_L0 nf )) (value_Least_m0 l' own need i)) own need i := by kernel_rfl
theorem value_Least_e0 (nf : Nat)  (l' : List (Int × Int × Int × Int × Unit)) : ∀ (fu : Nat) (own : List (Int × Int × Int × Int × Unit)) (need : List Bool) (i : Int), iter fu (LC.F tab (value_Least_phi nf) (fun _ F => iter nf F) value_Least_keep 0 (value_Least_L0 nf )) (value_Least_m0 l' own need i) = value_Least_l0 nf l'  fu own need i := by
  intro fu
  induction fu with
  | zero => intros; rfl
  | succ fu ih =>
    intro own need i
    rw [value_Least_h0 nf  l' fu own need i]
    simp only [ih, value_Least_e2]
    rfl
theorem value_Least_eq (nf : Nat) (vars : Int) (l' : List (Int × Int × Int × Int × Unit)) : runF tab (value_Least_phi nf) value_Least_keep nf [PT.val (Ty.int IntKind.i64) (Md.bor true false), PT.val ((Ty.int IntKind.i64).pair ((Ty.int IntKind.i64).pair ((Ty.int IntKind.i64).pair ((Ty.int IntKind.i64).pair Ty.unit)))).sl (Md.bor true false)] [(((Ty.int IntKind.i64).pair ((Ty.int IntKind.i64).pair ((Ty.int IntKind.i64).pair ((Ty.int IntKind.i64).pair Ty.unit)))).sl, Md.own false (Md.bor false false)), (Ty.int IntKind.i64, Md.bor false true)] (resL ([]) Try.f52) (codeOf Try.f52) ⟨vars, l', ()⟩ = value_Least_f nf vars l' := by
  have h : runF tab (value_Least_phi nf) value_Least_keep nf [PT.val (Ty.int IntKind.i64) (Md.bor true false), PT.val ((Ty.int IntKind.i64).pair ((Ty.int IntKind.i64).pair ((Ty.int IntKind.i64).pair ((Ty.int IntKind.i64).pair Ty.unit)))).sl (Md.bor true false)] [(((Ty.int IntKind.i64).pair ((Ty.int IntKind.i64).pair ((Ty.int IntKind.i64).pair ((Ty.int IntKind.i64).pair Ty.unit)))).sl, Md.own false (Md.bor false false)), (Ty.int IntKind.i64, Md.bor false true)] (resL ([]) Try.f52) (codeOf Try.f52) ⟨vars, l', ()⟩ = value_Least_p nf (fun p0 v0 v1 v2 => iter nf (LC.F tab (value_Least_phi nf) (fun _ F => iter nf F) value_Least_keep 0 (value_Least_L0 nf)) (value_Least_m0 p0 v0 v1 v2)) vars l' := by kernel_rfl
  rw [h]
  simp only [value_Least_e0]
  rfl
def value_Least_F (nf : Nat) (x : denPs [.val (.int .i64) (.bor true false), .val (.sl (.pair (.int .i64) (.pair (.int .i64) (.pair (.int .i64) (.pair (.int .i64) (.unit)))))) (.bor true false)]) : Option (denL [(.sl (.pair (.int .i64) (.pair (.int .i64) (.pair (.int .i64) (.pair (.int .i64) (.unit))))), .own false (.bor false false)), (.int .i64, .bor false true)]) := value_Least_f nf x.1 x.2.1
def value_Least_C (nf : Nat) : Contract := ⟨[.val (.int .i64) (.bor true false), .val (.sl (.pair (.int .i64) (.pair (.int .i64) (.pair (.int .i64) (.pair (.int .i64) (.unit)))))) (.bor true false)], [(.sl (.pair (.int .i64) (.pair (.int .i64) (.pair (.int .i64) (.pair (.int .i64) (.unit))))), .own false (.bor false false)), (.int .i64, .bor false true)], value_Least_F nf, []⟩
theorem value_Least_ok : FnOK Try.prog 52 := ⟨Try.f52, codeOf Try.f52, Try.func52, by kernel_rfl, by kernel_rfl⟩
theorem value_Least_holds (nf : Nat) : Contract.Holds Try.prog 52 (value_Least_C nf) :=
  fn_holds (Φ := value_Least_phi nf) (keep := value_Least_keep) (n := nf) ⟨tabs.1, tabs.2, (ctx_cons term_Check_ok (term_Check_holds nf) (ctx_cons value_numbers_ok (value_numbers_holds nf) ctx_nil)), mixed, bk_ok bkls rfl⟩ (fn := Try.f52) ⟨Try.func52, by kernel_rfl, by kernel_rfl, by kernel_rfl⟩ (fun x => value_Least_eq nf x.1 x.2.1)

/-! codemason codemasonref.same -/
def ref_same_phi (nf : Nat) : Nat → Option Contract := lookC []
def ref_same_keep : Nat → List Nat := lookK []
def ref_same_p (nf : Nat)  (l' : List (Int × Int × Int × Int × Unit)) (first : List Int) (a : Int × Int × Int × Int × Unit) (b : Int × Int × Int × Int × Unit) : Option (Bool × Unit) :=
  bif a.fst != b.fst then
    some ((false, ()))
  else
    bif decide (a.fst < 3) then
      some ((a.snd.snd.snd.fst == b.snd.snd.snd.fst, ()))
    else
      bif inb a.snd.fst first.length then
        bif inb b.snd.fst first.length then
          bif first.getD (Int.toNat a.snd.fst) 0 == first.getD (Int.toNat b.snd.fst) 0 then
            bif inb a.snd.snd.fst first.length then
              bif inb b.snd.snd.fst first.length then
                bif inb a.snd.fst first.length then
                  bif inb b.snd.snd.fst first.length then
                    bif first.getD (Int.toNat a.snd.fst) 0 == first.getD (Int.toNat b.snd.snd.fst) 0 then
                      bif inb a.snd.snd.fst first.length then
                        bif inb b.snd.fst first.length then
                          bif first.getD (Int.toNat a.snd.snd.fst) 0 == first.getD (Int.toNat b.snd.snd.fst) 0 then
                            some ((true, ()))
                          else
                            bif first.getD (Int.toNat a.snd.snd.fst) 0 == first.getD (Int.toNat b.snd.fst) 0 then
                              bif a.fst == 3 then
                                some ((true, ()))
                              else
                                some ((a.fst == 5, ()))
                            else
                              some ((false, ()))
                        else
                          none
                      else
                        none
                    else
                      bif first.getD (Int.toNat a.snd.snd.fst) 0 == first.getD (Int.toNat b.snd.snd.fst) 0 then
                        some ((true, ()))
                      else
                        some ((false, ()))
                  else
                    none
                else
                  none
              else
                none
            else
              none
          else
            bif inb a.snd.fst first.length then
              bif inb b.snd.snd.fst first.length then
                bif first.getD (Int.toNat a.snd.fst) 0 == first.getD (Int.toNat b.snd.snd.fst) 0 then
                  bif inb a.snd.snd.fst first.length then
                    bif inb b.snd.fst first.length then
                      bif first.getD (Int.toNat a.snd.snd.fst) 0 == first.getD (Int.toNat b.snd.fst) 0 then
                        bif a.fst == 3 then
                          some ((true, ()))
                        else
                          some ((a.fst == 5, ()))
                      else
                        some ((false, ()))
                    else
                      none
                  else
                    none
                else
                  some ((false, ()))
              else
                none
            else
              none
        else
          none
      else
        none
def ref_same_f (nf : Nat) (l' : List (Int × Int × Int × Int × Unit)) (first : List Int) (a : Int × Int × Int × Int × Unit) (b : Int × Int × Int × Int × Unit) : Option (Bool × Unit) := ref_same_p nf  l' first a b
theorem ref_same_eq (nf : Nat) (l' : List (Int × Int × Int × Int × Unit)) (first : List Int) (a : Int × Int × Int × Int × Unit) (b : Int × Int × Int × Int × Unit) : runF tab (ref_same_phi nf) ref_same_keep nf [PT.val ((Ty.int IntKind.i64).pair ((Ty.int IntKind.i64).pair ((Ty.int IntKind.i64).pair ((Ty.int IntKind.i64).pair Ty.unit)))).sl (Md.bor true false), PT.val (Ty.int IntKind.i64).sl (Md.bor true false), PT.val ((Ty.int IntKind.i64).pair ((Ty.int IntKind.i64).pair ((Ty.int IntKind.i64).pair ((Ty.int IntKind.i64).pair Ty.unit)))) (Md.bor true false), PT.val ((Ty.int IntKind.i64).pair ((Ty.int IntKind.i64).pair ((Ty.int IntKind.i64).pair ((Ty.int IntKind.i64).pair Ty.unit)))) (Md.bor true false)] [(Ty.bool, Md.bor false true)] (resL ([]) Try.f79) (codeOf Try.f79) ⟨l', first, a, b, ()⟩ = ref_same_f nf l' first a b := by
  have h : runF tab (ref_same_phi nf) ref_same_keep nf [PT.val ((Ty.int IntKind.i64).pair ((Ty.int IntKind.i64).pair ((Ty.int IntKind.i64).pair ((Ty.int IntKind.i64).pair Ty.unit)))).sl (Md.bor true false), PT.val (Ty.int IntKind.i64).sl (Md.bor true false), PT.val ((Ty.int IntKind.i64).pair ((Ty.int IntKind.i64).pair ((Ty.int IntKind.i64).pair ((Ty.int IntKind.i64).pair Ty.unit)))) (Md.bor true false), PT.val ((Ty.int IntKind.i64).pair ((Ty.int IntKind.i64).pair ((Ty.int IntKind.i64).pair ((Ty.int IntKind.i64).pair Ty.unit)))) (Md.bor true false)] [(Ty.bool, Md.bor false true)] (resL ([]) Try.f79) (codeOf Try.f79) ⟨l', first, a, b, ()⟩ = ref_same_p nf  l' first a b := by kernel_rfl
  exact h
def ref_same_F (nf : Nat) (x : denPs [.val (.sl (.pair (.int .i64) (.pair (.int .i64) (.pair (.int .i64) (.pair (.int .i64) (.unit)))))) (.bor true false), .val (.sl (.int .i64)) (.bor true false), .val (.pair (.int .i64) (.pair (.int .i64) (.pair (.int .i64) (.pair (.int .i64) (.unit))))) (.bor true false), .val (.pair (.int .i64) (.pair (.int .i64) (.pair (.int .i64) (.pair (.int .i64) (.unit))))) (.bor true false)]) : Option (denL [(.bool, .bor false true)]) := ref_same_f nf x.1 x.2.1 x.2.2.1 x.2.2.2.1
def ref_same_C (nf : Nat) : Contract := ⟨[.val (.sl (.pair (.int .i64) (.pair (.int .i64) (.pair (.int .i64) (.pair (.int .i64) (.unit)))))) (.bor true false), .val (.sl (.int .i64)) (.bor true false), .val (.pair (.int .i64) (.pair (.int .i64) (.pair (.int .i64) (.pair (.int .i64) (.unit))))) (.bor true false), .val (.pair (.int .i64) (.pair (.int .i64) (.pair (.int .i64) (.pair (.int .i64) (.unit))))) (.bor true false)], [(.bool, .bor false true)], ref_same_F nf, []⟩
theorem ref_same_ok : FnOK Try.prog 79 := ⟨Try.f79, codeOf Try.f79, Try.func79, by kernel_rfl, by kernel_rfl⟩
theorem ref_same_holds (nf : Nat) : Contract.Holds Try.prog 79 (ref_same_C nf) :=
  fn_holds (Φ := ref_same_phi nf) (keep := ref_same_keep) (n := nf) ⟨tabs.1, tabs.2, ctx_nil, mixed, bk_ok bkls rfl⟩ (fn := Try.f79) ⟨Try.func79, by kernel_rfl, by kernel_rfl, by kernel_rfl⟩ (fun x => ref_same_eq nf x.1 x.2.1 x.2.2.1 x.2.2.2.1)

/-! codemason codemasonref.Firsts -/
def ref_Firsts_phi (nf : Nat) : Nat → Option Contract := lookC [(79, ref_same_C nf)]
def ref_Firsts_keep : Nat → List Nat := lookK [(2, [0, 3, 5, 6, 7, 8, 9, 10, 34]), (0, [0, 3, 8, 9, 10, 34])]
def ref_Firsts_b0 (nf : Nat) (l2 : List (Int × Int × Int × Int × Unit) → Int → List Int → Int × Int × Int × Int × Unit → Int → Int → Option (List Int × Unit)) (l' : List (Int × Int × Int × Int × Unit)) (g0 : List Int → Int → Option (List Int × Unit)) (first : List Int) (t10 : Int) : Option (List Int × Unit) :=
  bif decide (t10 < (↑l'.length : Int)) then
    bif inb t10 l'.length then
      l2 l' t10 first (l'.getD t10.toNat (0, 0, 0, 0, ())) t10 (IntKind.i64.wrap (t10 - 1))
    else
      none
  else
    some ((first, ()))
def ref_Firsts_b2 (nf : Nat) (l' : List (Int × Int × Int × Int × Unit)) (t10 : Int) (g0 : List Int → Int → Option (List Int × Unit)) (g2 : List Int → Int × Int × Int × Int × Unit → Int → Int → Option (List Int × Unit)) (first2 : List Int) (t : Int × Int × Int × Int × Unit) (f : Int) (j : Int) : Option (List Int × Unit) :=
  bif decide (j ≥ 0) then
    bif inb j l'.length then
      Option.bind (ref_same_f nf l' first2 t (l'.getD j.toNat (0, 0, 0, 0, ()))) fun r =>
      bif r.fst then
        g2 first2 t j (IntKind.i64.wrap (j - 1))
      else
        g2 first2 t f (IntKind.i64.wrap (j - 1))
    else
      none
  else
    bif bimp false ![f].isEmpty && (first2.length + [f].length).ble lim then
      g0 (first2 ++ [f]) (IntKind.i64.wrap (t10 + 1))
    else
      none
def ref_Firsts_p (nf : Nat) (l0 : List (Int × Int × Int × Int × Unit) → List Int → Int → Option (List Int × Unit)) (l' : List (Int × Int × Int × Int × Unit)) : Option (List Int × Unit) :=
  l0 l' [] 0
def ref_Firsts_l2 (nf : Nat) (l' : List (Int × Int × Int × Int × Unit)) (t10 : Int) (g0 : List Int → Int → Option (List Int × Unit)) : Nat → List Int → Int × Int × Int × Int × Unit → Int → Int → Option (List Int × Unit)
  | 0, _, _, _, _ => none
  | fu + 1, first2, t, f, j => ref_Firsts_b2 nf  l' t10 g0 (ref_Firsts_l2 nf l' t10 g0 fu) first2 t f j
def ref_Firsts_l0 (nf : Nat) (l' : List (Int × Int × Int × Int × Unit)) : Nat → List Int → Int → Option (List Int × Unit)
  | 0, _, _ => none
  | fu + 1, first, t10 => ref_Firsts_b0 nf (fun _ p1 v0 v1 v2 v3 => ref_Firsts_l2 nf l' p1 (fun first t10 => ref_Firsts_l0 nf l'  fu first t10) nf v0 v1 v2 v3) l'  (ref_Firsts_l0 nf l'  fu) first t10
def ref_Firsts_f (nf : Nat) (l' : List (Int × Int × Int × Int × Unit)) : Option (List Int × Unit) := ref_Firsts_p nf (fun p0 v0 v1 => ref_Firsts_l0 nf p0 nf v0 v1) l'
noncomputable def ref_Firsts_L0 (nf : Nat) : LC (List Int × Unit) := theL (findL tab (ref_Firsts_phi nf) (fun _ F => iter nf F) ref_Firsts_keep 0 0 (codeOf Try.f51) (fin tab [((Ty.int IntKind.i64).sl, Md.own false (Md.bor false false))] (resL ([]) Try.f51)) (fun _ _ => none) (fin tab [((Ty.int IntKind.i64).sl, Md.own false (Md.bor false false))] (resL ([]) Try.f51)))
def ref_Firsts_m0 (l' : List (Int × Int × Int × Int × Unit)) (first : List Int) (t10 : Int) : St := ⟨fresh, [(0, AV.v ((Ty.int IntKind.i64).pair ((Ty.int IntKind.i64).pair ((Ty.int IntKind.i64).pair ((Ty.int IntKind.i64).pair Ty.unit)))).sl (Md.bor true false) l'), (3, AV.ow 500003 (Ty.int IntKind.i64).sl (Md.own false (Md.bor false false)) first), (8, AV.v ((Ty.int IntKind.i64).pair ((Ty.int IntKind.i64).pair ((Ty.int IntKind.i64).pair ((Ty.int IntKind.i64).pair Ty.unit)))).sl (Md.bor true false) l'), (9, AV.v (Ty.int IntKind.i64) (Md.bor false true) (↑l'.length : Int)), (10, AV.v (Ty.int IntKind.i64) (Md.bor false true) t10), (34, AV.dead)]⟩
noncomputable def ref_Firsts_L2 (nf : Nat) (G0 : St → Option (List Int × Unit)) : LC (List Int × Unit) := theL (findL tab (ref_Firsts_phi nf) (fun _ F => iter nf F) ref_Firsts_keep 2 0 (ref_Firsts_L0 nf ).c (fun st => norm (ref_Firsts_keep 0) st G0) (ref_Firsts_L0 nf ).Kx (ref_Firsts_L0 nf ).Kr)
def ref_Firsts_m2 (l' : List (Int × Int × Int × Int × Unit)) (t10 : Int) (first2 : List Int) (t : Int × Int × Int × Int × Unit) (f : Int) (j : Int) : St := ⟨fresh, [(0, AV.v ((Ty.int IntKind.i64).pair ((Ty.int IntKind.i64).pair ((Ty.int IntKind.i64).pair ((Ty.int IntKind.i64).pair Ty.unit)))).sl (Md.bor true false) l'), (3, AV.ow 500003 (Ty.int IntKind.i64).sl (Md.own false (Md.bor false false)) first2), (5, AV.box 5 500005 ((Ty.int IntKind.i64).pair ((Ty.int IntKind.i64).pair ((Ty.int IntKind.i64).pair ((Ty.int IntKind.i64).pair Ty.unit)))) (Md.bor true false) t), (6, AV.v (Ty.int IntKind.i64) (Md.bor false true) f), (7, AV.v (Ty.int IntKind.i64) (Md.bor false true) j), (8, AV.v ((Ty.int IntKind.i64).pair ((Ty.int IntKind.i64).pair ((Ty.int IntKind.i64).pair ((Ty.int IntKind.i64).pair Ty.unit)))).sl (Md.bor true false) l'), (9, AV.v (Ty.int IntKind.i64) (Md.bor false true) (↑l'.length : Int)), (10, AV.v (Ty.int IntKind.i64) (Md.bor false true) t10), (34, AV.dead)]⟩
theorem ref_Firsts_h2 (nf : Nat) (G0 : St → Option (List Int × Unit)) (l' : List (Int × Int × Int × Int × Unit)) (t10 : Int) (fu : Nat) (first2 : List Int) (t : Int × Int × Int × Int × Unit) (f : Int) (j : Int) : iter (fu + 1) (LC.F tab (ref_Firsts_phi nf) (fun _ F => iter nf F) ref_Firsts_keep 2 (ref_Firsts_L2 nf G0)) (ref_Firsts_m2 l' t10 first2 t f j) = ref_Firsts_b2 nf  l' t10 (fun first t10 => G0 (ref_Firsts_m0 l' first t10)) (fun first2 t f j => iter fu (LC.F tab (ref_Firsts_phi nf) (fun _ F => iter nf F) ref_Firsts_keep 2 (ref_Firsts_L2 nf G0)) (ref_Firsts_m2 l' t10 first2 t f j)) first2 t f j := by kernel_rfl
theorem ref_Firsts_e2 (nf : Nat) (G0 : St → Option (List Int × Unit)) (l' : List (Int × Int × Int × Int × Unit)) (t10 : Int) : ∀ (fu : Nat) (first2 : List Int) (t : Int × Int × Int × Int × Unit) (f : Int) (j : Int), iter fu (LC.F tab (ref_Firsts_phi nf) (fun _ F => iter nf F) ref_Firsts_keep 2 (ref_Firsts_L2 nf G0)) (ref_Firsts_m2 l' t10 first2 t f j) = ref_Firsts_l2 nf l' t10 (fun first t10 => G0 (ref_Firsts_m0 l' first t10)) fu first2 t f j := by
  intro fu
  induction fu with
  | zero => intros; rfl
  | succ fu ih =>
    intro first2 t f j
    rw [ref_Firsts_h2 nf G0 l' t10 fu first2 t f j]
    simp only [ih]
    rfl
theorem ref_Firsts_h0 (nf : Nat)  (l' : List (Int × Int × Int × Int × Unit)) (fu : Nat) (first : List Int) (t10 : Int) : iter (fu + 1) (LC.F tab (ref_Firsts_phi nf) (fun _ F => iter nf F) ref_Firsts_keep 0 (ref_Firsts_L0 nf )) (ref_Firsts_m0 l' first t10) = ref_Firsts_b0 nf (fun _ p1 v0 v1 v2 v3 => iter nf (LC.F tab (ref_Firsts_phi nf) (fun _ F => iter nf F) ref_Firsts_keep 2 (ref_Firsts_L2 nf (iter fu (LC.F tab (ref_Firsts_phi nf) (fun _ F => iter nf F) ref_Firsts_keep 0 (ref_Firsts_L0 nf ))))) (ref_Firsts_m2 l' p1 v0 v1 v2 v3)) l'  (fun first t10 => iter fu (LC.F tab (ref_Firsts_phi nf) (fun _ F => iter nf F) ref_Firsts_keep 0 (ref_Firsts_L0 nf )) (ref_Firsts_m0 l' first t10)) first t10 := by kernel_rfl
theorem ref_Firsts_e0 (nf : Nat)  (l' : List (Int × Int × Int × Int × Unit)) : ∀ (fu : Nat) (first : List Int) (t10 : Int), iter fu (LC.F tab (ref_Firsts_phi nf) (fun _ F => iter nf F) ref_Firsts_keep 0 (ref_Firsts_L0 nf )) (ref_Firsts_m0 l' first t10) = ref_Firsts_l0 nf l'  fu first t10 := by
  intro fu
  induction fu with
  | zero => intros; rfl
  | succ fu ih =>
    intro first t10
    rw [ref_Firsts_h0 nf  l' fu first t10]
    simp only [ih, ref_Firsts_e2]
    rfl
theorem ref_Firsts_eq (nf : Nat) (l' : List (Int × Int × Int × Int × Unit)) : runF tab (ref_Firsts_phi nf) ref_Firsts_keep nf [PT.val ((Ty.int IntKind.i64).pair ((Ty.int IntKind.i64).pair ((Ty.int IntKind.i64).pair ((Ty.int IntKind.i64).pair Ty.unit)))).sl (Md.bor true false)] [((Ty.int IntKind.i64).sl, Md.own false (Md.bor false false))] (resL ([]) Try.f51) (codeOf Try.f51) ⟨l', ()⟩ = ref_Firsts_f nf l' := by
  have h : runF tab (ref_Firsts_phi nf) ref_Firsts_keep nf [PT.val ((Ty.int IntKind.i64).pair ((Ty.int IntKind.i64).pair ((Ty.int IntKind.i64).pair ((Ty.int IntKind.i64).pair Ty.unit)))).sl (Md.bor true false)] [((Ty.int IntKind.i64).sl, Md.own false (Md.bor false false))] (resL ([]) Try.f51) (codeOf Try.f51) ⟨l', ()⟩ = ref_Firsts_p nf (fun p0 v0 v1 => iter nf (LC.F tab (ref_Firsts_phi nf) (fun _ F => iter nf F) ref_Firsts_keep 0 (ref_Firsts_L0 nf)) (ref_Firsts_m0 p0 v0 v1)) l' := by kernel_rfl
  rw [h]
  simp only [ref_Firsts_e0]
  rfl
def ref_Firsts_F (nf : Nat) (x : denPs [.val (.sl (.pair (.int .i64) (.pair (.int .i64) (.pair (.int .i64) (.pair (.int .i64) (.unit)))))) (.bor true false)]) : Option (denL [(.sl (.int .i64), .own false (.bor false false))]) := ref_Firsts_f nf x.1
def ref_Firsts_C (nf : Nat) : Contract := ⟨[.val (.sl (.pair (.int .i64) (.pair (.int .i64) (.pair (.int .i64) (.pair (.int .i64) (.unit)))))) (.bor true false)], [(.sl (.int .i64), .own false (.bor false false))], ref_Firsts_F nf, []⟩
theorem ref_Firsts_ok : FnOK Try.prog 51 := ⟨Try.f51, codeOf Try.f51, Try.func51, by kernel_rfl, by kernel_rfl⟩
theorem ref_Firsts_holds (nf : Nat) : Contract.Holds Try.prog 51 (ref_Firsts_C nf) :=
  fn_holds (Φ := ref_Firsts_phi nf) (keep := ref_Firsts_keep) (n := nf) ⟨tabs.1, tabs.2, (ctx_cons ref_same_ok (ref_same_holds nf) ctx_nil), mixed, bk_ok bkls rfl⟩ (fn := Try.f51) ⟨Try.func51, by kernel_rfl, by kernel_rfl, by kernel_rfl⟩ (fun x => ref_Firsts_eq nf x.1)

/-! codemason codemasonref.Least 1 -/
def ref_Least_1_phi (nf : Nat) : Nat → Option Contract := lookC []
def ref_Least_1_keep : Nat → List Nat := lookK [(0, [0, 1, 4, 7, 8, 9])]
def ref_Least_1_b0 (nf : Nat) (i : Int) (c1 : List Int) (g0 : Int → Int → Option (Int × Unit)) (k' : Int) (t9 : Int) : Option (Int × Unit) :=
  bif decide (t9 < (↑c1.length : Int)) then
    bif inb t9 c1.length then
      bif decide (c1.getD t9.toNat 0 < i) then
        g0 (IntKind.i64.wrap (k' + 1)) (IntKind.i64.wrap (t9 + 1))
      else
        g0 k' (IntKind.i64.wrap (t9 + 1))
    else
      none
  else
    some ((k', ()))
def ref_Least_1_p (nf : Nat) (l0 : Int → List Int → Int → Int → Option (Int × Unit)) (i : Int) (c1 : List Int) : Option (Int × Unit) :=
  l0 i c1 0 0
def ref_Least_1_l0 (nf : Nat) (i : Int) (c1 : List Int) : Nat → Int → Int → Option (Int × Unit)
  | 0, _, _ => none
  | fu + 1, k', t9 => ref_Least_1_b0 nf  i c1  (ref_Least_1_l0 nf i c1  fu) k' t9
def ref_Least_1_f (nf : Nat) (i : Int) (c1 : List Int) : Option (Int × Unit) := ref_Least_1_p nf (fun p0 p1 v0 v1 => ref_Least_1_l0 nf p0 p1 nf v0 v1) i c1
noncomputable def ref_Least_1_L0 (nf : Nat) : LC (Int × Unit) := theL (findL tab (ref_Least_1_phi nf) (fun _ F => iter nf F) ref_Least_1_keep 0 0 (codeOf Try.f80) (fin tab [(Ty.int IntKind.i64, Md.bor false true)] (resL ([]) Try.f80)) (fun _ _ => none) (fin tab [(Ty.int IntKind.i64, Md.bor false true)] (resL ([]) Try.f80)))
def ref_Least_1_m0 (i : Int) (c1 : List Int) (k' : Int) (t9 : Int) : St := ⟨fresh, [(0, AV.v (Ty.int IntKind.i64) (Md.bor false true) i), (1, AV.rop (Ty.int IntKind.i64).sl (Md.bor true false) c1), (4, AV.v (Ty.int IntKind.i64) (Md.bor false true) k'), (7, AV.v (Ty.int IntKind.i64).sl (Md.bor true false) c1), (8, AV.v (Ty.int IntKind.i64) (Md.bor false true) (↑c1.length : Int)), (9, AV.v (Ty.int IntKind.i64) (Md.bor false true) t9)]⟩
theorem ref_Least_1_h0 (nf : Nat)  (i : Int) (c1 : List Int) (fu : Nat) (k' : Int) (t9 : Int) : iter (fu + 1) (LC.F tab (ref_Least_1_phi nf) (fun _ F => iter nf F) ref_Least_1_keep 0 (ref_Least_1_L0 nf )) (ref_Least_1_m0 i c1 k' t9) = ref_Least_1_b0 nf  i c1  (fun k' t9 => iter fu (LC.F tab (ref_Least_1_phi nf) (fun _ F => iter nf F) ref_Least_1_keep 0 (ref_Least_1_L0 nf )) (ref_Least_1_m0 i c1 k' t9)) k' t9 := by kernel_rfl
theorem ref_Least_1_e0 (nf : Nat)  (i : Int) (c1 : List Int) : ∀ (fu : Nat) (k' : Int) (t9 : Int), iter fu (LC.F tab (ref_Least_1_phi nf) (fun _ F => iter nf F) ref_Least_1_keep 0 (ref_Least_1_L0 nf )) (ref_Least_1_m0 i c1 k' t9) = ref_Least_1_l0 nf i c1  fu k' t9 := by
  intro fu
  induction fu with
  | zero => intros; rfl
  | succ fu ih =>
    intro k' t9
    rw [ref_Least_1_h0 nf  i c1 fu k' t9]
    simp only [ih]
    rfl
theorem ref_Least_1_eq (nf : Nat) (i : Int) (c1 : List Int) : runF tab (ref_Least_1_phi nf) ref_Least_1_keep nf [PT.val (Ty.int IntKind.i64) (Md.bor true false), PT.ptr (Ty.int IntKind.i64).sl (Md.bor true false)] [(Ty.int IntKind.i64, Md.bor false true)] (resL ([]) Try.f80) (codeOf Try.f80) ⟨i, c1, ()⟩ = ref_Least_1_f nf i c1 := by
  have h : runF tab (ref_Least_1_phi nf) ref_Least_1_keep nf [PT.val (Ty.int IntKind.i64) (Md.bor true false), PT.ptr (Ty.int IntKind.i64).sl (Md.bor true false)] [(Ty.int IntKind.i64, Md.bor false true)] (resL ([]) Try.f80) (codeOf Try.f80) ⟨i, c1, ()⟩ = ref_Least_1_p nf (fun p0 p1 v0 v1 => iter nf (LC.F tab (ref_Least_1_phi nf) (fun _ F => iter nf F) ref_Least_1_keep 0 (ref_Least_1_L0 nf)) (ref_Least_1_m0 p0 p1 v0 v1)) i c1 := by kernel_rfl
  rw [h]
  simp only [ref_Least_1_e0]
  rfl
def ref_Least_1_F (nf : Nat) (x : denPs [.val (.int .i64) (.bor true false), .ptr (.sl (.int .i64)) (.bor true false)]) : Option (denL [(.int .i64, .bor false true)]) := ref_Least_1_f nf x.1 x.2.1
def ref_Least_1_C (nf : Nat) : Contract := ⟨[.val (.int .i64) (.bor true false), .ptr (.sl (.int .i64)) (.bor true false)], [(.int .i64, .bor false true)], ref_Least_1_F nf, []⟩
theorem ref_Least_1_ok : FnOK Try.prog 80 := ⟨Try.f80, codeOf Try.f80, Try.func80, by kernel_rfl, by kernel_rfl⟩
theorem ref_Least_1_holds (nf : Nat) : Contract.Holds Try.prog 80 (ref_Least_1_C nf) :=
  fn_holds (Φ := ref_Least_1_phi nf) (keep := ref_Least_1_keep) (n := nf) ⟨tabs.1, tabs.2, ctx_nil, mixed, bk_ok bkls rfl⟩ (fn := Try.f80) ⟨Try.func80, by kernel_rfl, by kernel_rfl, by kernel_rfl⟩ (fun x => ref_Least_1_eq nf x.1 x.2.1)

/-! codemason codemasonref.Least -/
def ref_Least_phi (nf : Nat) : Nat → Option Contract := lookC [(23, ref_Comes_C nf), (51, ref_Firsts_C nf), (80, ref_Least_1_C nf)]
def ref_Least_keep : Nat → List Nat := lookK [(2, [4, 7, 8, 9, 39, 49, 50, 51, 52, 111]), (0, [0, 3, 4, 14, 15, 16, 17, 39, 111])]
def ref_Least_b0 (nf : Nat) (l2 : List Int × Unit → List (Int × Int × Int × Int × Unit) → List Int → List (Int × Int × Int × Int × Unit) → Int → Option (List (Int × Int × Int × Int × Unit) × Unit)) (l' : List (Int × Int × Int × Int × Unit)) (g0 : List Int → List (Int × Int × Int × Int × Unit) → Int → Option (List (Int × Int × Int × Int × Unit) × Unit)) (first : List Int) (firsts : List (Int × Int × Int × Int × Unit)) (t17 : Int) : Option (List (Int × Int × Int × Int × Unit) × Unit) :=
  bif decide (t17 < (↑l'.length : Int)) then
    bif inb t17 l'.length then
      bif decide ((l'.getD t17.toNat (0, 0, 0, 0, ())).fst ≥ 3) then
        bif inb (l'.getD t17.toNat (0, 0, 0, 0, ())).snd.fst first.length then
          bif inb (l'.getD t17.toNat (0, 0, 0, 0, ())).snd.snd.fst first.length then
            bif bimp false ![((l'.getD t17.toNat (0, 0, 0, 0, ())).fst, first.getD (Int.toNat (l'.getD t17.toNat (0, 0, 0, 0, ())).snd.fst) 0, first.getD (Int.toNat (l'.getD t17.toNat (0, 0, 0, 0, ())).snd.snd.fst) 0, (l'.getD t17.toNat (0, 0, 0, 0, ())).snd.snd.snd)].isEmpty && (firsts.length + [((l'.getD t17.toNat (0, 0, 0, 0, ())).fst, first.getD (Int.toNat (l'.getD t17.toNat (0, 0, 0, 0, ())).snd.fst) 0, first.getD (Int.toNat (l'.getD t17.toNat (0, 0, 0, 0, ())).snd.snd.fst) 0, (l'.getD t17.toNat (0, 0, 0, 0, ())).snd.snd.snd)].length).ble lim then
              g0 first (firsts ++ [((l'.getD t17.toNat (0, 0, 0, 0, ())).fst, first.getD (Int.toNat (l'.getD t17.toNat (0, 0, 0, 0, ())).snd.fst) 0, first.getD (Int.toNat (l'.getD t17.toNat (0, 0, 0, 0, ())).snd.snd.fst) 0, (l'.getD t17.toNat (0, 0, 0, 0, ())).snd.snd.snd)]) (IntKind.i64.wrap (t17 + 1))
            else
              none
          else
            none
        else
          none
      else
        bif bimp false ![l'.getD t17.toNat (0, 0, 0, 0, ())].isEmpty && (firsts.length + [l'.getD t17.toNat (0, 0, 0, 0, ())].length).ble lim then
          g0 first (firsts ++ [l'.getD t17.toNat (0, 0, 0, 0, ())]) (IntKind.i64.wrap (t17 + 1))
        else
          none
    else
      none
  else
    bif inb (IntKind.i64.wrap ((↑l'.length : Int) - 1)) first.length then
      Option.bind (ref_Comes_f nf firsts (first.getD (IntKind.i64.wrap ((↑l'.length : Int) - 1)).toNat 0)) fun r2 =>
      l2 r2 firsts r2.fst [] 0
    else
      none
def ref_Least_b2 (nf : Nat) (r2 : List Int × Unit) (g2 : List (Int × Int × Int × Int × Unit) → List Int → List (Int × Int × Int × Int × Unit) → Int → Option (List (Int × Int × Int × Int × Unit) × Unit)) (firsts2 : List (Int × Int × Int × Int × Unit)) (need : List Int) (out : List (Int × Int × Int × Int × Unit)) (t52 : Int) : Option (List (Int × Int × Int × Int × Unit) × Unit) :=
  bif decide (t52 < (↑(List.length r2.fst) : Int)) then
    bif inb t52 need.length then
      bif inb (need.getD t52.toNat 0) firsts2.length then
        bif inb (need.getD t52.toNat 0) firsts2.length then
          both (bif decide ((firsts2.getD (Int.toNat (need.getD t52.toNat 0)) (0, 0, 0, 0, ())).fst ≥ 3) then
            bif inb (need.getD t52.toNat 0) firsts2.length then
              bif inb (need.getD t52.toNat 0) firsts2.length then
                Option.bind (ref_Least_1_f nf ((firsts2.getD (Int.toNat (need.getD t52.toNat 0)) (0, 0, 0, 0, ())).snd.fst) need) fun r3 =>
                Option.bind (ref_Least_1_f nf ((firsts2.getD (Int.toNat (need.getD t52.toNat 0)) (0, 0, 0, 0, ())).snd.snd.fst) need) fun r4 =>
                bif decide (r3.fst > r4.fst) then
                  bif (firsts2.getD (Int.toNat (need.getD t52.toNat 0)) (0, 0, 0, 0, ())).fst == 3 then
                    bif bimp false ![((firsts2.getD (Int.toNat (need.getD t52.toNat 0)) (0, 0, 0, 0, ())).fst, r4.fst, r3.fst, 0, ())].isEmpty && (out.length + [((firsts2.getD (Int.toNat (need.getD t52.toNat 0)) (0, 0, 0, 0, ())).fst, r4.fst, r3.fst, 0, ())].length).ble lim then
                      g2 firsts2 need (out ++ [((firsts2.getD (Int.toNat (need.getD t52.toNat 0)) (0, 0, 0, 0, ())).fst, r4.fst, r3.fst, 0, ())]) (IntKind.i64.wrap (t52 + 1))
                    else
                      none
                  else
                    bif (firsts2.getD (Int.toNat (need.getD t52.toNat 0)) (0, 0, 0, 0, ())).fst == 5 then
                      bif bimp false ![((firsts2.getD (Int.toNat (need.getD t52.toNat 0)) (0, 0, 0, 0, ())).fst, r4.fst, r3.fst, 0, ())].isEmpty && (out.length + [((firsts2.getD (Int.toNat (need.getD t52.toNat 0)) (0, 0, 0, 0, ())).fst, r4.fst, r3.fst, 0, ())].length).ble lim then
                        g2 firsts2 need (out ++ [((firsts2.getD (Int.toNat (need.getD t52.toNat 0)) (0, 0, 0, 0, ())).fst, r4.fst, r3.fst, 0, ())]) (IntKind.i64.wrap (t52 + 1))
                      else
                        none
                    else
                      bif bimp false ![((firsts2.getD (Int.toNat (need.getD t52.toNat 0)) (0, 0, 0, 0, ())).fst, r3.fst, r4.fst, 0, ())].isEmpty && (out.length + [((firsts2.getD (Int.toNat (need.getD t52.toNat 0)) (0, 0, 0, 0, ())).fst, r3.fst, r4.fst, 0, ())].length).ble lim then
                        g2 firsts2 need (out ++ [((firsts2.getD (Int.toNat (need.getD t52.toNat 0)) (0, 0, 0, 0, ())).fst, r3.fst, r4.fst, 0, ())]) (IntKind.i64.wrap (t52 + 1))
                      else
                        none
                else
                  bif bimp false ![((firsts2.getD (Int.toNat (need.getD t52.toNat 0)) (0, 0, 0, 0, ())).fst, r3.fst, r4.fst, 0, ())].isEmpty && (out.length + [((firsts2.getD (Int.toNat (need.getD t52.toNat 0)) (0, 0, 0, 0, ())).fst, r3.fst, r4.fst, 0, ())].length).ble lim then
                    g2 firsts2 need (out ++ [((firsts2.getD (Int.toNat (need.getD t52.toNat 0)) (0, 0, 0, 0, ())).fst, r3.fst, r4.fst, 0, ())]) (IntKind.i64.wrap (t52 + 1))
                  else
                    none
              else
                none
            else
              none
          else
            bif bimp false ![((firsts2.getD (Int.toNat (need.getD t52.toNat 0)) (0, 0, 0, 0, ())).fst, 0, 0, (firsts2.getD (Int.toNat (need.getD t52.toNat 0)) (0, 0, 0, 0, ())).snd.snd.snd.fst, ())].isEmpty && (out.length + [((firsts2.getD (Int.toNat (need.getD t52.toNat 0)) (0, 0, 0, 0, ())).fst, 0, 0, (firsts2.getD (Int.toNat (need.getD t52.toNat 0)) (0, 0, 0, 0, ())).snd.snd.snd.fst, ())].length).ble lim then
              g2 firsts2 need (out ++ [((firsts2.getD (Int.toNat (need.getD t52.toNat 0)) (0, 0, 0, 0, ())).fst, 0, 0, (firsts2.getD (Int.toNat (need.getD t52.toNat 0)) (0, 0, 0, 0, ())).snd.snd.snd.fst, ())]) (IntKind.i64.wrap (t52 + 1))
            else
              none) (bif decide ((firsts2.getD (Int.toNat (need.getD t52.toNat 0)) (0, 0, 0, 0, ())).fst ≥ 3) then
            bif inb (need.getD t52.toNat 0) firsts2.length then
              bif inb (need.getD t52.toNat 0) firsts2.length then
                Option.bind (ref_Least_1_f nf ((firsts2.getD (Int.toNat (need.getD t52.toNat 0)) (0, 0, 0, 0, ())).snd.fst) need) fun r3 =>
                Option.bind (ref_Least_1_f nf ((firsts2.getD (Int.toNat (need.getD t52.toNat 0)) (0, 0, 0, 0, ())).snd.snd.fst) need) fun r4 =>
                bif decide (r3.fst > r4.fst) then
                  bif (firsts2.getD (Int.toNat (need.getD t52.toNat 0)) (0, 0, 0, 0, ())).fst == 3 then
                    bif bimp false ![((firsts2.getD (Int.toNat (need.getD t52.toNat 0)) (0, 0, 0, 0, ())).fst, r4.fst, r3.fst, 0, ())].isEmpty && (out.length + [((firsts2.getD (Int.toNat (need.getD t52.toNat 0)) (0, 0, 0, 0, ())).fst, r4.fst, r3.fst, 0, ())].length).ble lim then
                      g2 firsts2 need (out ++ [((firsts2.getD (Int.toNat (need.getD t52.toNat 0)) (0, 0, 0, 0, ())).fst, r4.fst, r3.fst, 0, ())]) (IntKind.i64.wrap (t52 + 1))
                    else
                      none
                  else
                    bif (firsts2.getD (Int.toNat (need.getD t52.toNat 0)) (0, 0, 0, 0, ())).fst == 5 then
                      bif bimp false ![((firsts2.getD (Int.toNat (need.getD t52.toNat 0)) (0, 0, 0, 0, ())).fst, r4.fst, r3.fst, 0, ())].isEmpty && (out.length + [((firsts2.getD (Int.toNat (need.getD t52.toNat 0)) (0, 0, 0, 0, ())).fst, r4.fst, r3.fst, 0, ())].length).ble lim then
                        g2 firsts2 need (out ++ [((firsts2.getD (Int.toNat (need.getD t52.toNat 0)) (0, 0, 0, 0, ())).fst, r4.fst, r3.fst, 0, ())]) (IntKind.i64.wrap (t52 + 1))
                      else
                        none
                    else
                      bif bimp false ![((firsts2.getD (Int.toNat (need.getD t52.toNat 0)) (0, 0, 0, 0, ())).fst, r3.fst, r4.fst, 0, ())].isEmpty && (out.length + [((firsts2.getD (Int.toNat (need.getD t52.toNat 0)) (0, 0, 0, 0, ())).fst, r3.fst, r4.fst, 0, ())].length).ble lim then
                        g2 firsts2 need (out ++ [((firsts2.getD (Int.toNat (need.getD t52.toNat 0)) (0, 0, 0, 0, ())).fst, r3.fst, r4.fst, 0, ())]) (IntKind.i64.wrap (t52 + 1))
                      else
                        none
                else
                  bif bimp false ![((firsts2.getD (Int.toNat (need.getD t52.toNat 0)) (0, 0, 0, 0, ())).fst, r3.fst, r4.fst, 0, ())].isEmpty && (out.length + [((firsts2.getD (Int.toNat (need.getD t52.toNat 0)) (0, 0, 0, 0, ())).fst, r3.fst, r4.fst, 0, ())].length).ble lim then
                    g2 firsts2 need (out ++ [((firsts2.getD (Int.toNat (need.getD t52.toNat 0)) (0, 0, 0, 0, ())).fst, r3.fst, r4.fst, 0, ())]) (IntKind.i64.wrap (t52 + 1))
                  else
                    none
              else
                none
            else
              none
          else
            bif bimp false ![((firsts2.getD (Int.toNat (need.getD t52.toNat 0)) (0, 0, 0, 0, ())).fst, 0, 0, (firsts2.getD (Int.toNat (need.getD t52.toNat 0)) (0, 0, 0, 0, ())).snd.snd.snd.fst, ())].isEmpty && (out.length + [((firsts2.getD (Int.toNat (need.getD t52.toNat 0)) (0, 0, 0, 0, ())).fst, 0, 0, (firsts2.getD (Int.toNat (need.getD t52.toNat 0)) (0, 0, 0, 0, ())).snd.snd.snd.fst, ())].length).ble lim then
              g2 firsts2 need (out ++ [((firsts2.getD (Int.toNat (need.getD t52.toNat 0)) (0, 0, 0, 0, ())).fst, 0, 0, (firsts2.getD (Int.toNat (need.getD t52.toNat 0)) (0, 0, 0, 0, ())).snd.snd.snd.fst, ())]) (IntKind.i64.wrap (t52 + 1))
            else
              none)
        else
          none
      else
        none
    else
      none
  else
    some ((out, ()))
def ref_Least_p (nf : Nat) (l0 : List (Int × Int × Int × Int × Unit) → List Int → List (Int × Int × Int × Int × Unit) → Int → Option (List (Int × Int × Int × Int × Unit) × Unit)) (l' : List (Int × Int × Int × Int × Unit)) : Option (List (Int × Int × Int × Int × Unit) × Unit) :=
  Option.bind (ref_Firsts_f nf l') fun r =>
  l0 l' r.fst [] 0
def ref_Least_l2 (nf : Nat) (r2 : List Int × Unit) : Nat → List (Int × Int × Int × Int × Unit) → List Int → List (Int × Int × Int × Int × Unit) → Int → Option (List (Int × Int × Int × Int × Unit) × Unit)
  | 0, _, _, _, _ => none
  | fu + 1, firsts2, need, out, t52 => ref_Least_b2 nf  r2  (ref_Least_l2 nf r2  fu) firsts2 need out t52
def ref_Least_l0 (nf : Nat) (l' : List (Int × Int × Int × Int × Unit)) : Nat → List Int → List (Int × Int × Int × Int × Unit) → Int → Option (List (Int × Int × Int × Int × Unit) × Unit)
  | 0, _, _, _ => none
  | fu + 1, first, firsts, t17 => ref_Least_b0 nf (fun p0 v0 v1 v2 v3 => ref_Least_l2 nf p0  nf v0 v1 v2 v3) l'  (ref_Least_l0 nf l'  fu) first firsts t17
def ref_Least_f (nf : Nat) (l' : List (Int × Int × Int × Int × Unit)) : Option (List (Int × Int × Int × Int × Unit) × Unit) := ref_Least_p nf (fun p0 v0 v1 v2 => ref_Least_l0 nf p0 nf v0 v1 v2) l'
noncomputable def ref_Least_L0 (nf : Nat) : LC (List (Int × Int × Int × Int × Unit) × Unit) := theL (findL tab (ref_Least_phi nf) (fun _ F => iter nf F) ref_Least_keep 0 0 (codeOf Try.f53) (fin tab [(((Ty.int IntKind.i64).pair ((Ty.int IntKind.i64).pair ((Ty.int IntKind.i64).pair ((Ty.int IntKind.i64).pair Ty.unit)))).sl, Md.own false (Md.bor false false))] (resL ([]) Try.f53)) (fun _ _ => none) (fin tab [(((Ty.int IntKind.i64).pair ((Ty.int IntKind.i64).pair ((Ty.int IntKind.i64).pair ((Ty.int IntKind.i64).pair Ty.unit)))).sl, Md.own false (Md.bor false false))] (resL ([]) Try.f53)))
def ref_Least_m0 (l' : List (Int × Int × Int × Int × Unit)) (first : List Int) (firsts : List (Int × Int × Int × Int × Unit)) (t17 : Int) : St := ⟨fresh, [(0, AV.v ((Ty.int IntKind.i64).pair ((Ty.int IntKind.i64).pair ((Ty.int IntKind.i64).pair ((Ty.int IntKind.i64).pair Ty.unit)))).sl (Md.bor true false) l'), (3, AV.ow 500003 (Ty.int IntKind.i64).sl (Md.own false (Md.bor false false)) first), (4, AV.ow 500004 ((Ty.int IntKind.i64).pair ((Ty.int IntKind.i64).pair ((Ty.int IntKind.i64).pair ((Ty.int IntKind.i64).pair Ty.unit)))).sl (Md.own false (Md.bor false false)) firsts), (14, AV.dead), (15, AV.v ((Ty.int IntKind.i64).pair ((Ty.int IntKind.i64).pair ((Ty.int IntKind.i64).pair ((Ty.int IntKind.i64).pair Ty.unit)))).sl (Md.bor true false) l'), (16, AV.v (Ty.int IntKind.i64) (Md.bor false true) (↑l'.length : Int)), (17, AV.v (Ty.int IntKind.i64) (Md.bor false true) t17), (39, AV.dead), (111, AV.dead)]⟩
noncomputable def ref_Least_L2 (nf : Nat) : LC (List (Int × Int × Int × Int × Unit) × Unit) := theL (findL tab (ref_Least_phi nf) (fun _ F => iter nf F) ref_Least_keep 2 0 (codeOf Try.f53) (fin tab [(((Ty.int IntKind.i64).pair ((Ty.int IntKind.i64).pair ((Ty.int IntKind.i64).pair ((Ty.int IntKind.i64).pair Ty.unit)))).sl, Md.own false (Md.bor false false))] (resL ([]) Try.f53)) (fun _ _ => none) (fin tab [(((Ty.int IntKind.i64).pair ((Ty.int IntKind.i64).pair ((Ty.int IntKind.i64).pair ((Ty.int IntKind.i64).pair Ty.unit)))).sl, Md.own false (Md.bor false false))] (resL ([]) Try.f53)))
def ref_Least_m2 (r2 : List Int × Unit) (firsts2 : List (Int × Int × Int × Int × Unit)) (need : List Int) (out : List (Int × Int × Int × Int × Unit)) (t52 : Int) : St := ⟨fresh, [(4, AV.ow 500004 ((Ty.int IntKind.i64).pair ((Ty.int IntKind.i64).pair ((Ty.int IntKind.i64).pair ((Ty.int IntKind.i64).pair Ty.unit)))).sl (Md.own false (Md.bor false false)) firsts2), (7, AV.box 7 500007 (Ty.int IntKind.i64).sl (Md.own false (Md.bor false false)) need), (8, AV.clo 80 [AV.pl 7 7 [Stp.dr]]), (9, AV.ow 500009 ((Ty.int IntKind.i64).pair ((Ty.int IntKind.i64).pair ((Ty.int IntKind.i64).pair ((Ty.int IntKind.i64).pair Ty.unit)))).sl (Md.own false (Md.bor false false)) out), (39, AV.dead), (49, AV.clo 80 [AV.pl 7 7 [Stp.dr]]), (50, AV.al 7 500007 [Stp.dr]), (51, AV.v (Ty.int IntKind.i64) (Md.bor false true) (↑(List.length r2.fst) : Int)), (52, AV.v (Ty.int IntKind.i64) (Md.bor false true) t52), (111, AV.dead)]⟩
theorem ref_Least_h2 (nf : Nat)  (r2 : List Int × Unit) (fu : Nat) (firsts2 : List (Int × Int × Int × Int × Unit)) (need : List Int) (out : List (Int × Int × Int × Int × Unit)) (t52 : Int) : iter (fu + 1) (LC.F tab (ref_Least_phi nf) (fun _ F => iter nf F) ref_Least_keep 2 (ref_Least_L2 nf )) (ref_Least_m2 r2 firsts2 need out t52) = ref_Least_b2 nf  r2  (fun firsts2 need out t52 => iter fu (LC.F tab (ref_Least_phi nf) (fun _ F => iter nf F) ref_Least_keep 2 (ref_Least_L2 nf )) (ref_Least_m2 r2 firsts2 need out t52)) firsts2 need out t52 := by kernel_rfl
theorem ref_Least_e2 (nf : Nat)  (r2 : List Int × Unit) : ∀ (fu : Nat) (firsts2 : List (Int × Int × Int × Int × Unit)) (need : List Int) (out : List (Int × Int × Int × Int × Unit)) (t52 : Int), iter fu (LC.F tab (ref_Least_phi nf) (fun _ F => iter nf F) ref_Least_keep 2 (ref_Least_L2 nf )) (ref_Least_m2 r2 firsts2 need out t52) = ref_Least_l2 nf r2  fu firsts2 need out t52 := by
  intro fu
  induction fu with
  | zero => intros; rfl
  | succ fu ih =>
    intro firsts2 need out t52
    rw [ref_Least_h2 nf  r2 fu firsts2 need out t52]
    simp only [ih]
    rfl
theorem ref_Least_h0 (nf : Nat)  (l' : List (Int × Int × Int × Int × Unit)) (fu : Nat) (first : List Int) (firsts : List (Int × Int × Int × Int × Unit)) (t17 : Int) : iter (fu + 1) (LC.F tab (ref_Least_phi nf) (fun _ F => iter nf F) ref_Least_keep 0 (ref_Least_L0 nf )) (ref_Least_m0 l' first firsts t17) = ref_Least_b0 nf (fun p0 v0 v1 v2 v3 => iter nf (LC.F tab (ref_Least_phi nf) (fun _ F => iter nf F) ref_Least_keep 2 (ref_Least_L2 nf )) (ref_Least_m2 p0 v0 v1 v2 v3)) l'  (fun first firsts t17 => iter fu (LC.F tab (ref_Least_phi nf) (fun _ F => iter nf F) ref_Least_keep 0 (ref_Least_L0 nf )) (ref_Least_m0 l' first firsts t17)) first firsts t17 := by kernel_rfl
theorem ref_Least_e0 (nf : Nat)  (l' : List (Int × Int × Int × Int × Unit)) : ∀ (fu : Nat) (first : List Int) (firsts : List (Int × Int × Int × Int × Unit)) (t17 : Int), iter fu (LC.F tab (ref_Least_phi nf) (fun _ F => iter nf F) ref_Least_keep 0 (ref_Least_L0 nf )) (ref_Least_m0 l' first firsts t17) = ref_Least_l0 nf l'  fu first firsts t17 := by
  intro fu
  induction fu with
  | zero => intros; rfl
  | succ fu ih =>
    intro first firsts t17
    rw [ref_Least_h0 nf  l' fu first firsts t17]
    simp only [ih, ref_Least_e2]
    rfl
theorem ref_Least_eq (nf : Nat) (l' : List (Int × Int × Int × Int × Unit)) : runF tab (ref_Least_phi nf) ref_Least_keep nf [PT.val ((Ty.int IntKind.i64).pair ((Ty.int IntKind.i64).pair ((Ty.int IntKind.i64).pair ((Ty.int IntKind.i64).pair Ty.unit)))).sl (Md.bor true false)] [(((Ty.int IntKind.i64).pair ((Ty.int IntKind.i64).pair ((Ty.int IntKind.i64).pair ((Ty.int IntKind.i64).pair Ty.unit)))).sl, Md.own false (Md.bor false false))] (resL ([]) Try.f53) (codeOf Try.f53) ⟨l', ()⟩ = ref_Least_f nf l' := by
  have h : runF tab (ref_Least_phi nf) ref_Least_keep nf [PT.val ((Ty.int IntKind.i64).pair ((Ty.int IntKind.i64).pair ((Ty.int IntKind.i64).pair ((Ty.int IntKind.i64).pair Ty.unit)))).sl (Md.bor true false)] [(((Ty.int IntKind.i64).pair ((Ty.int IntKind.i64).pair ((Ty.int IntKind.i64).pair ((Ty.int IntKind.i64).pair Ty.unit)))).sl, Md.own false (Md.bor false false))] (resL ([]) Try.f53) (codeOf Try.f53) ⟨l', ()⟩ = ref_Least_p nf (fun p0 v0 v1 v2 => iter nf (LC.F tab (ref_Least_phi nf) (fun _ F => iter nf F) ref_Least_keep 0 (ref_Least_L0 nf)) (ref_Least_m0 p0 v0 v1 v2)) l' := by kernel_rfl
  rw [h]
  simp only [ref_Least_e0]
  rfl
def ref_Least_F (nf : Nat) (x : denPs [.val (.sl (.pair (.int .i64) (.pair (.int .i64) (.pair (.int .i64) (.pair (.int .i64) (.unit)))))) (.bor true false)]) : Option (denL [(.sl (.pair (.int .i64) (.pair (.int .i64) (.pair (.int .i64) (.pair (.int .i64) (.unit))))), .own false (.bor false false))]) := ref_Least_f nf x.1
def ref_Least_C (nf : Nat) : Contract := ⟨[.val (.sl (.pair (.int .i64) (.pair (.int .i64) (.pair (.int .i64) (.pair (.int .i64) (.unit)))))) (.bor true false)], [(.sl (.pair (.int .i64) (.pair (.int .i64) (.pair (.int .i64) (.pair (.int .i64) (.unit))))), .own false (.bor false false))], ref_Least_F nf, []⟩
theorem ref_Least_ok : FnOK Try.prog 53 := ⟨Try.f53, codeOf Try.f53, Try.func53, by kernel_rfl, by kernel_rfl⟩
theorem ref_Least_holds (nf : Nat) : Contract.Holds Try.prog 53 (ref_Least_C nf) :=
  fn_holds (Φ := ref_Least_phi nf) (keep := ref_Least_keep) (n := nf) ⟨tabs.1, tabs.2, (ctx_cons ref_Comes_ok (ref_Comes_holds nf) (ctx_cons ref_Firsts_ok (ref_Firsts_holds nf) (ctx_cons ref_Least_1_ok (ref_Least_1_holds nf) ctx_nil))), mixed, bk_ok bkls rfl⟩ (fn := Try.f53) ⟨Try.func53, by kernel_rfl, by kernel_rfl, by kernel_rfl⟩ (fun x => ref_Least_eq nf x.1)

/-! codemason codemasonlaw.ValueLeasts -/
def law_ValueLeasts_phi (nf : Nat) : Nat → Option Contract := lookC [(21, ref_TermsCheck_C nf), (48, ref_Terms_C nf), (52, value_Least_C nf), (53, ref_Least_C nf)]
def law_ValueLeasts_keep : Nat → List Nat := lookK []
def law_ValueLeasts_p (nf : Nat)  (vars : Int) (l' : List (Int × Int × Int × Int × Unit)) : Option (Bool × Unit) :=
  Option.bind (value_Least_f nf vars l') fun r =>
  Option.bind (ref_TermsCheck_f nf vars l') fun r2 =>
  bif r2.fst != 0 then
    bif r.snd.fst == r2.fst then
      some (((↑(List.length r.fst) : Int) == 0, ()))
    else
      some ((false, ()))
  else
    bif r.snd.fst == 0 then
      Option.bind (ref_Least_f nf l') fun r3 =>
      Option.bind (ref_Terms_f nf r.fst r3.fst) fun r4 =>
      some ((r4.fst, ()))
    else
      some ((false, ()))
def law_ValueLeasts_f (nf : Nat) (vars : Int) (l' : List (Int × Int × Int × Int × Unit)) : Option (Bool × Unit) := law_ValueLeasts_p nf  vars l'
theorem law_ValueLeasts_eq (nf : Nat) (vars : Int) (l' : List (Int × Int × Int × Int × Unit)) : runF tab (law_ValueLeasts_phi nf) law_ValueLeasts_keep nf [PT.val (Ty.int IntKind.i64) (Md.bor false false), PT.val ((Ty.int IntKind.i64).pair ((Ty.int IntKind.i64).pair ((Ty.int IntKind.i64).pair ((Ty.int IntKind.i64).pair Ty.unit)))).sl (Md.bor false false)] [(Ty.bool, Md.bor false true)] (resL ([]) Try.f15) (codeOf Try.f15) ⟨vars, l', ()⟩ = law_ValueLeasts_f nf vars l' := by
  have h : runF tab (law_ValueLeasts_phi nf) law_ValueLeasts_keep nf [PT.val (Ty.int IntKind.i64) (Md.bor false false), PT.val ((Ty.int IntKind.i64).pair ((Ty.int IntKind.i64).pair ((Ty.int IntKind.i64).pair ((Ty.int IntKind.i64).pair Ty.unit)))).sl (Md.bor false false)] [(Ty.bool, Md.bor false true)] (resL ([]) Try.f15) (codeOf Try.f15) ⟨vars, l', ()⟩ = law_ValueLeasts_p nf  vars l' := by kernel_rfl
  exact h
def law_ValueLeasts_F (nf : Nat) (x : denPs [.val (.int .i64) (.bor false false), .val (.sl (.pair (.int .i64) (.pair (.int .i64) (.pair (.int .i64) (.pair (.int .i64) (.unit)))))) (.bor false false)]) : Option (denL [(.bool, .bor false true)]) := law_ValueLeasts_f nf x.1 x.2.1
def law_ValueLeasts_C (nf : Nat) : Contract := ⟨[.val (.int .i64) (.bor false false), .val (.sl (.pair (.int .i64) (.pair (.int .i64) (.pair (.int .i64) (.pair (.int .i64) (.unit)))))) (.bor false false)], [(.bool, .bor false true)], law_ValueLeasts_F nf, []⟩
theorem law_ValueLeasts_ok : FnOK Try.prog 15 := ⟨Try.f15, codeOf Try.f15, Try.func15, by kernel_rfl, by kernel_rfl⟩
theorem law_ValueLeasts_holds (nf : Nat) : Contract.Holds Try.prog 15 (law_ValueLeasts_C nf) :=
  fn_holds (Φ := law_ValueLeasts_phi nf) (keep := law_ValueLeasts_keep) (n := nf) ⟨tabs.1, tabs.2, (ctx_cons ref_TermsCheck_ok (ref_TermsCheck_holds nf) (ctx_cons ref_Terms_ok (ref_Terms_holds nf) (ctx_cons value_Least_ok (value_Least_holds nf) (ctx_cons ref_Least_ok (ref_Least_holds nf) ctx_nil)))), mixed, bk_ok bkls rfl⟩ (fn := Try.f15) ⟨Try.func15, by kernel_rfl, by kernel_rfl, by kernel_rfl⟩ (fun x => law_ValueLeasts_eq nf x.1 x.2.1)
end
end Go.Proofs.Ytpnganfbonlphaa.S
