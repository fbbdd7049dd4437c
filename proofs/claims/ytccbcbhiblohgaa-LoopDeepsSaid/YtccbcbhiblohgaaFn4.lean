/- The functions of the code, as plain functions, and the theorems that say so: made by a program of this proof's own. -/
import Derived.Test.YtccbcbhiblohgaaFn1
import Derived.Test.YtccbcbhiblohgaaWalkH
import Derived.Test.YtccbcbhiblohgaaChecked
namespace Go.Proofs.Ytccbcbhiblohgaa.S
open Go Go.Ab
noncomputable section

/-! slices.Reverse   int int  -/
def slices_Reverse_phi (nf : Nat) : Nat → Option Contract := lookC []
def slices_Reverse_keep : Nat → List Nat := lookK [(0, [0, 2, 3])]
def slices_Reverse_b0 (nf : Nat)  (g0 : List Int → Int → Int → Option (List Int × Unit)) (s2 : List Int) (i : Int) (j : Int) : Option (List Int × Unit) :=
  bif decide (i < j) then
    bif inb j s2.length then
      bif inb i s2.length then
        bif inb i s2.length then
          bif inb j (s2.set i.toNat (s2.getD j.toNat 0)).length then
            g0 ((s2.set i.toNat (s2.getD j.toNat 0)).set j.toNat (s2.getD i.toNat 0)) (IntKind.i64.wrap (i + 1)) (IntKind.i64.wrap (j - 1))
          else
            none
        else
          none
      else
        none
    else
      none
  else
    some ((s2, ()))
def slices_Reverse_p (nf : Nat) (l0 : List Int → Int → Int → Option (List Int × Unit)) (s : List Int) : Option (List Int × Unit) :=
  l0 s 0 (IntKind.i64.wrap ((↑s.length : Int) - 1))
def slices_Reverse_l0 (nf : Nat)  : Nat → List Int → Int → Int → Option (List Int × Unit)
  | 0, _, _, _ => none
  | fu + 1, s2, i, j => slices_Reverse_b0 nf    (slices_Reverse_l0 nf   fu) s2 i j
def slices_Reverse_f (nf : Nat) (s : List Int) : Option (List Int × Unit) := slices_Reverse_p nf (fun  v0 v1 v2 => slices_Reverse_l0 nf  nf v0 v1 v2) s
noncomputable def slices_Reverse_L0 (nf : Nat) : LC (List Int × Unit) := theL (findL tab (slices_Reverse_phi nf) (fun _ F => iter nf F) slices_Reverse_keep 0 0 (codeOf Try.f61) (fin tab [((Ty.int IntKind.i64).sl, Md.own false (Md.bor false false))] (resL (some 0) Try.f61)) (fun _ _ => none) (fin tab [((Ty.int IntKind.i64).sl, Md.own false (Md.bor false false))] (resL (some 0) Try.f61)))
def slices_Reverse_m0 (s2 : List Int) (i : Int) (j : Int) : St := ⟨fresh, [(0, AV.ow 500000 (Ty.int IntKind.i64).sl (Md.own false (Md.bor false false)) s2), (2, AV.v (Ty.int IntKind.i64) (Md.bor false true) i), (3, AV.v (Ty.int IntKind.i64) (Md.bor false true) j)]⟩
theorem slices_Reverse_h0 (nf : Nat)   (fu : Nat) (s2 : List Int) (i : Int) (j : Int) : iter (fu + 1) (LC.F tab (slices_Reverse_phi nf) (fun _ F => iter nf F) slices_Reverse_keep 0 (slices_Reverse_L0 nf )) (slices_Reverse_m0  s2 i j) = slices_Reverse_b0 nf    (fun s2 i j => iter fu (LC.F tab (slices_Reverse_phi nf) (fun _ F => iter nf F) slices_Reverse_keep 0 (slices_Reverse_L0 nf )) (slices_Reverse_m0  s2 i j)) s2 i j := by kernel_rfl
theorem slices_Reverse_e0 (nf : Nat)   : ∀ (fu : Nat) (s2 : List Int) (i : Int) (j : Int), iter fu (LC.F tab (slices_Reverse_phi nf) (fun _ F => iter nf F) slices_Reverse_keep 0 (slices_Reverse_L0 nf )) (slices_Reverse_m0  s2 i j) = slices_Reverse_l0 nf   fu s2 i j := by
  intro fu
  induction fu with
  | zero => intros; rfl
  | succ fu ih =>
    intro s2 i j
    rw [slices_Reverse_h0 nf   fu s2 i j]
    simp only [ih]
    rfl
theorem slices_Reverse_eq (nf : Nat) (s : List Int) : runF tab (slices_Reverse_phi nf) slices_Reverse_keep nf [PT.val (Ty.int IntKind.i64).sl (Md.own false (Md.bor false false))] [((Ty.int IntKind.i64).sl, Md.own false (Md.bor false false))] (resL (some 0) Try.f61) (codeOf Try.f61) ⟨s, ()⟩ = slices_Reverse_f nf s := by
  have h : runF tab (slices_Reverse_phi nf) slices_Reverse_keep nf [PT.val (Ty.int IntKind.i64).sl (Md.own false (Md.bor false false))] [((Ty.int IntKind.i64).sl, Md.own false (Md.bor false false))] (resL (some 0) Try.f61) (codeOf Try.f61) ⟨s, ()⟩ = slices_Reverse_p nf (fun  v0 v1 v2 => iter nf (LC.F tab (slices_Reverse_phi nf) (fun _ F => iter nf F) slices_Reverse_keep 0 (slices_Reverse_L0 nf)) (slices_Reverse_m0  v0 v1 v2)) s := by kernel_rfl
  rw [h]
  simp only [slices_Reverse_e0]
  rfl
def slices_Reverse_F (nf : Nat) (x : denPs [.val (.sl (.int .i64)) (.own false (.bor false false))]) : Option (denL [(.sl (.int .i64), .own false (.bor false false))]) := slices_Reverse_f nf x.1
def slices_Reverse_C (nf : Nat) : Contract := ⟨[.val (.sl (.int .i64)) (.own false (.bor false false))], [(.sl (.int .i64), .own false (.bor false false))], slices_Reverse_F nf, (some 0)⟩
theorem slices_Reverse_ok : FnOK Try.prog 61 := ⟨Try.f61, codeOf Try.f61, Try.func61, by kernel_rfl, by kernel_rfl⟩
theorem slices_Reverse_holds (nf : Nat) : Contract.Holds Try.prog 61 (slices_Reverse_C nf) :=
  fn_holds (Φ := slices_Reverse_phi nf) (keep := slices_Reverse_keep) (n := nf) ⟨tabs.1, tabs.2, ctx_nil, mixed⟩ (fn := Try.f61) ⟨Try.func61, by kernel_rfl, by kernel_rfl, by kernel_rfl⟩ (fun x => slices_Reverse_eq nf x.1)

/-! codemason way.Order -/
def way_Order_phi (nf : Nat) : Nat → Option Contract := lookC [(20, way_Check_C nf), (60, way_walk_C nf), (61, slices_Reverse_C nf)]
def way_Order_keep : Nat → List Nat := lookK []
def way_Order_p (nf : Nat)  (next : List (List Int)) : Option (List Int × Int × Unit) :=
  Option.bind (way_Check_f nf next) fun r =>
  bif r.fst != 0 then
    some (([], r.fst, ()))
  else
    Option.bind (way_walk_f nf next) fun r2 =>
    Option.bind (slices_Reverse_f nf r2.fst) fun r3 =>
    some ((r3.fst, 0, ()))
def way_Order_f (nf : Nat) (next : List (List Int)) : Option (List Int × Int × Unit) := way_Order_p nf  next
theorem way_Order_eq (nf : Nat) (next : List (List Int)) : runF tab (way_Order_phi nf) way_Order_keep nf [PT.val (Ty.int IntKind.i64).sl.sl (Md.bor true false)] [((Ty.int IntKind.i64).sl, Md.own false (Md.bor false false)), (Ty.int IntKind.i64, Md.bor false true)] (resL (none) Try.f25) (codeOf Try.f25) ⟨next, ()⟩ = way_Order_f nf next := by
  have h : runF tab (way_Order_phi nf) way_Order_keep nf [PT.val (Ty.int IntKind.i64).sl.sl (Md.bor true false)] [((Ty.int IntKind.i64).sl, Md.own false (Md.bor false false)), (Ty.int IntKind.i64, Md.bor false true)] (resL (none) Try.f25) (codeOf Try.f25) ⟨next, ()⟩ = way_Order_p nf  next := by kernel_rfl
  exact h
def way_Order_F (nf : Nat) (x : denPs [.val (.sl (.sl (.int .i64))) (.bor true false)]) : Option (denL [(.sl (.int .i64), .own false (.bor false false)), (.int .i64, .bor false true)]) := way_Order_f nf x.1
def way_Order_C (nf : Nat) : Contract := ⟨[.val (.sl (.sl (.int .i64))) (.bor true false)], [(.sl (.int .i64), .own false (.bor false false)), (.int .i64, .bor false true)], way_Order_F nf, none⟩
theorem way_Order_ok : FnOK Try.prog 25 := ⟨Try.f25, codeOf Try.f25, Try.func25, by kernel_rfl, by kernel_rfl⟩
theorem way_Order_holds (nf : Nat) : Contract.Holds Try.prog 25 (way_Order_C nf) :=
  fn_holds (Φ := way_Order_phi nf) (keep := way_Order_keep) (n := nf) ⟨tabs.1, tabs.2, (ctx_cons way_Check_ok (way_Check_holds nf) (ctx_cons way_walk_ok (way_walk_holds nf) (ctx_cons slices_Reverse_ok (slices_Reverse_holds nf) ctx_nil))), mixed⟩ (fn := Try.f25) ⟨Try.func25, by kernel_rfl, by kernel_rfl, by kernel_rfl⟩ (fun x => way_Order_eq nf x.1)

/-! codemason codemasonref.Walk -/
def ref_Walk_phi (nf : Nat) (self : denPs [.val (.sl (.sl (.int .i64))) (.bor true false), .val (.int .i64) (.bor true false), .val (.sl (.int .i64)) (.own false (.bor false false)), .val (.sl (.int .i64)) (.own false (.bor false false))] → Option (denL [(.sl (.int .i64), .own false (.bor false false)), (.sl (.int .i64), .own false (.bor false false))])) : Nat → Option Contract := lookC [(26, ⟨[.val (.sl (.sl (.int .i64))) (.bor true false), .val (.int .i64) (.bor true false), .val (.sl (.int .i64)) (.own false (.bor false false)), .val (.sl (.int .i64)) (.own false (.bor false false))], [(.sl (.int .i64), .own false (.bor false false)), (.sl (.int .i64), .own false (.bor false false))], self, none⟩), (28, ref_Has_C nf)]
def ref_Walk_keep : Nat → List Nat := lookK [(0, [0, 1, 2, 3, 15, 16, 18, 19, 20, 21, 29, 34, 35, 36])]
def ref_Walk_b0 (nf : Nat) (self : denPs [.val (.sl (.sl (.int .i64))) (.bor true false), .val (.int .i64) (.bor true false), .val (.sl (.int .i64)) (.own false (.bor false false)), .val (.sl (.int .i64)) (.own false (.bor false false))] → Option (denL [(.sl (.int .i64), .own false (.bor false false)), (.sl (.int .i64), .own false (.bor false false))])) (next : List (List Int)) (i : Int) (g0 : List Int → List Int → Int → Option (List Int × List Int × Unit)) (seen2 : List Int) (left2 : List Int) (t21 : Int) : Option (List Int × List Int × Unit) :=
  bif decide (t21 < (↑(List.length (next.getD i.toNat [])) : Int)) then
    bif inb t21 (List.length (next.getD i.toNat [])) then
      Option.bind (ref_Has_f nf seen2 (List.getD (next.getD i.toNat []) t21.toNat 0)) fun r =>
      bif !r.fst then
        Option.bind (self (next, List.getD (next.getD i.toNat []) t21.toNat 0, seen2, left2, ())) fun r2 =>
        g0 r2.fst r2.snd.fst (IntKind.i64.wrap (t21 + 1))
      else
        g0 seen2 left2 (IntKind.i64.wrap (t21 + 1))
    else
      none
  else
    bif bimp false ![i].isEmpty && (left2.length + [i].length).ble lim then
      some ((seen2, left2 ++ [i], ()))
    else
      none
def ref_Walk_p (nf : Nat) (self : denPs [.val (.sl (.sl (.int .i64))) (.bor true false), .val (.int .i64) (.bor true false), .val (.sl (.int .i64)) (.own false (.bor false false)), .val (.sl (.int .i64)) (.own false (.bor false false))] → Option (denL [(.sl (.int .i64), .own false (.bor false false)), (.sl (.int .i64), .own false (.bor false false))])) (l0 : List (List Int) → Int → List Int → List Int → Int → Option (List Int × List Int × Unit)) (next : List (List Int)) (i : Int) (seen : List Int) (left : List Int) : Option (List Int × List Int × Unit) :=
  bif bimp false ![i].isEmpty && (seen.length + [i].length).ble lim then
    bif inb i next.length then
      l0 next i (seen ++ [i]) left 0
    else
      none
  else
    none
def ref_Walk_l0 (nf : Nat) (self : denPs [.val (.sl (.sl (.int .i64))) (.bor true false), .val (.int .i64) (.bor true false), .val (.sl (.int .i64)) (.own false (.bor false false)), .val (.sl (.int .i64)) (.own false (.bor false false))] → Option (denL [(.sl (.int .i64), .own false (.bor false false)), (.sl (.int .i64), .own false (.bor false false))])) (next : List (List Int)) (i : Int) : Nat → List Int → List Int → Int → Option (List Int × List Int × Unit)
  | 0, _, _, _ => none
  | fu + 1, seen2, left2, t21 => ref_Walk_b0 nf self  next i  (ref_Walk_l0 nf self next i  fu) seen2 left2 t21
def ref_Walk_f (nf : Nat) (self : denPs [.val (.sl (.sl (.int .i64))) (.bor true false), .val (.int .i64) (.bor true false), .val (.sl (.int .i64)) (.own false (.bor false false)), .val (.sl (.int .i64)) (.own false (.bor false false))] → Option (denL [(.sl (.int .i64), .own false (.bor false false)), (.sl (.int .i64), .own false (.bor false false))])) (next : List (List Int)) (i : Int) (seen : List Int) (left : List Int) : Option (List Int × List Int × Unit) := ref_Walk_p nf self (fun p0 p1 v0 v1 v2 => ref_Walk_l0 nf self p0 p1 nf v0 v1 v2) next i seen left
noncomputable def ref_Walk_L0 (nf : Nat) (self : denPs [.val (.sl (.sl (.int .i64))) (.bor true false), .val (.int .i64) (.bor true false), .val (.sl (.int .i64)) (.own false (.bor false false)), .val (.sl (.int .i64)) (.own false (.bor false false))] → Option (denL [(.sl (.int .i64), .own false (.bor false false)), (.sl (.int .i64), .own false (.bor false false))])) : LC (List Int × List Int × Unit) := theL (findL tab (ref_Walk_phi nf self) (fun _ F => iter nf F) ref_Walk_keep 0 0 (codeOf Try.f26) (fin tab [((Ty.int IntKind.i64).sl, Md.own false (Md.bor false false)), ((Ty.int IntKind.i64).sl, Md.own false (Md.bor false false))] (resL (none) Try.f26)) (fun _ _ => none) (fin tab [((Ty.int IntKind.i64).sl, Md.own false (Md.bor false false)), ((Ty.int IntKind.i64).sl, Md.own false (Md.bor false false))] (resL (none) Try.f26)))
def ref_Walk_m0 (next : List (List Int)) (i : Int) (seen2 : List Int) (left2 : List Int) (t21 : Int) : St := ⟨fresh, [(0, AV.v (Ty.int IntKind.i64).sl.sl (Md.bor true false) next), (1, AV.v (Ty.int IntKind.i64) (Md.bor false true) i), (2, AV.ow 500002 (Ty.int IntKind.i64).sl (Md.own false (Md.bor false false)) seen2), (3, AV.ow 500003 (Ty.int IntKind.i64).sl (Md.own false (Md.bor false false)) left2), (15, AV.dead), (16, AV.v (Ty.int IntKind.i64).sl.sl (Md.bor true false) next), (18, AV.rop (Ty.int IntKind.i64).sl (Md.bor true false) (next.getD i.toNat [])), (19, AV.v (Ty.int IntKind.i64).sl (Md.bor true false) (next.getD i.toNat [])), (20, AV.v (Ty.int IntKind.i64) (Md.bor false true) (↑(List.length (next.getD i.toNat [])) : Int)), (21, AV.v (Ty.int IntKind.i64) (Md.bor false true) t21), (29, AV.dead), (34, AV.dead), (35, AV.dead), (36, AV.dead)]⟩
theorem ref_Walk_h0 (nf : Nat) (self : denPs [.val (.sl (.sl (.int .i64))) (.bor true false), .val (.int .i64) (.bor true false), .val (.sl (.int .i64)) (.own false (.bor false false)), .val (.sl (.int .i64)) (.own false (.bor false false))] → Option (denL [(.sl (.int .i64), .own false (.bor false false)), (.sl (.int .i64), .own false (.bor false false))]))  (next : List (List Int)) (i : Int) (fu : Nat) (seen2 : List Int) (left2 : List Int) (t21 : Int) : iter (fu + 1) (LC.F tab (ref_Walk_phi nf self) (fun _ F => iter nf F) ref_Walk_keep 0 (ref_Walk_L0 nf self )) (ref_Walk_m0 next i seen2 left2 t21) = ref_Walk_b0 nf self  next i  (fun seen2 left2 t21 => iter fu (LC.F tab (ref_Walk_phi nf self) (fun _ F => iter nf F) ref_Walk_keep 0 (ref_Walk_L0 nf self )) (ref_Walk_m0 next i seen2 left2 t21)) seen2 left2 t21 := by kernel_rfl
theorem ref_Walk_e0 (nf : Nat) (self : denPs [.val (.sl (.sl (.int .i64))) (.bor true false), .val (.int .i64) (.bor true false), .val (.sl (.int .i64)) (.own false (.bor false false)), .val (.sl (.int .i64)) (.own false (.bor false false))] → Option (denL [(.sl (.int .i64), .own false (.bor false false)), (.sl (.int .i64), .own false (.bor false false))]))  (next : List (List Int)) (i : Int) : ∀ (fu : Nat) (seen2 : List Int) (left2 : List Int) (t21 : Int), iter fu (LC.F tab (ref_Walk_phi nf self) (fun _ F => iter nf F) ref_Walk_keep 0 (ref_Walk_L0 nf self )) (ref_Walk_m0 next i seen2 left2 t21) = ref_Walk_l0 nf self next i  fu seen2 left2 t21 := by
  intro fu
  induction fu with
  | zero => intros; rfl
  | succ fu ih =>
    intro seen2 left2 t21
    rw [ref_Walk_h0 nf self  next i fu seen2 left2 t21]
    simp only [ih]
    rfl
theorem ref_Walk_eq (nf : Nat) (self : denPs [.val (.sl (.sl (.int .i64))) (.bor true false), .val (.int .i64) (.bor true false), .val (.sl (.int .i64)) (.own false (.bor false false)), .val (.sl (.int .i64)) (.own false (.bor false false))] → Option (denL [(.sl (.int .i64), .own false (.bor false false)), (.sl (.int .i64), .own false (.bor false false))])) (next : List (List Int)) (i : Int) (seen : List Int) (left : List Int) : runF tab (ref_Walk_phi nf self) ref_Walk_keep nf [PT.val (Ty.int IntKind.i64).sl.sl (Md.bor true false), PT.val (Ty.int IntKind.i64) (Md.bor true false), PT.val (Ty.int IntKind.i64).sl (Md.own false (Md.bor false false)), PT.val (Ty.int IntKind.i64).sl (Md.own false (Md.bor false false))] [((Ty.int IntKind.i64).sl, Md.own false (Md.bor false false)), ((Ty.int IntKind.i64).sl, Md.own false (Md.bor false false))] (resL (none) Try.f26) (codeOf Try.f26) ⟨next, i, seen, left, ()⟩ = ref_Walk_f nf self next i seen left := by
  have h : runF tab (ref_Walk_phi nf self) ref_Walk_keep nf [PT.val (Ty.int IntKind.i64).sl.sl (Md.bor true false), PT.val (Ty.int IntKind.i64) (Md.bor true false), PT.val (Ty.int IntKind.i64).sl (Md.own false (Md.bor false false)), PT.val (Ty.int IntKind.i64).sl (Md.own false (Md.bor false false))] [((Ty.int IntKind.i64).sl, Md.own false (Md.bor false false)), ((Ty.int IntKind.i64).sl, Md.own false (Md.bor false false))] (resL (none) Try.f26) (codeOf Try.f26) ⟨next, i, seen, left, ()⟩ = ref_Walk_p nf self (fun p0 p1 v0 v1 v2 => iter nf (LC.F tab (ref_Walk_phi nf self) (fun _ F => iter nf F) ref_Walk_keep 0 (ref_Walk_L0 nf self)) (ref_Walk_m0 p0 p1 v0 v1 v2)) next i seen left := by kernel_rfl
  rw [h]
  simp only [ref_Walk_e0]
  rfl
def ref_Walk_F : Nat → denPs [.val (.sl (.sl (.int .i64))) (.bor true false), .val (.int .i64) (.bor true false), .val (.sl (.int .i64)) (.own false (.bor false false)), .val (.sl (.int .i64)) (.own false (.bor false false))] → Option (denL [(.sl (.int .i64), .own false (.bor false false)), (.sl (.int .i64), .own false (.bor false false))])
  | 0, _ => none
  | nf + 1, x => ref_Walk_f nf (ref_Walk_F nf) x.1 x.2.1 x.2.2.1 x.2.2.2.1
def ref_Walk_C (nf : Nat) : Contract := ⟨[.val (.sl (.sl (.int .i64))) (.bor true false), .val (.int .i64) (.bor true false), .val (.sl (.int .i64)) (.own false (.bor false false)), .val (.sl (.int .i64)) (.own false (.bor false false))], [(.sl (.int .i64), .own false (.bor false false)), (.sl (.int .i64), .own false (.bor false false))], ref_Walk_F nf, none⟩
theorem ref_Walk_ok : FnOK Try.prog 26 := ⟨Try.f26, codeOf Try.f26, Try.func26, by kernel_rfl, by kernel_rfl⟩
theorem ref_Walk_holds : ∀ (nf : Nat), Contract.Holds Try.prog 26 (ref_Walk_C nf)
  | 0 => fun _ _ h => by cases h
  | nf + 1 => by
    have ih := ref_Walk_holds nf
    exact fn_holds (Φ := ref_Walk_phi nf (ref_Walk_F nf)) (keep := ref_Walk_keep) (n := nf) ⟨tabs.1, tabs.2, (ctx_cons ref_Walk_ok (ih) (ctx_cons ref_Has_ok (ref_Has_holds nf) ctx_nil)), mixed⟩ (fn := Try.f26) ⟨Try.func26, by kernel_rfl, by kernel_rfl, by kernel_rfl⟩ (fun x => ref_Walk_eq nf (ref_Walk_F nf) x.1 x.2.1 x.2.2.1 x.2.2.2.1)

/-! codemason codemasonlaw.WayOrders -/
def law_WayOrders_phi (nf : Nat) : Nat → Option Contract := lookC [(21, ref_WayCheck_C nf), (25, way_Order_C nf), (26, ref_Walk_C nf)]
def law_WayOrders_keep : Nat → List Nat := lookK [(0, [3, 4, 7, 8, 9, 11, 12, 26, 28, 30])]
def law_WayOrders_b0 (nf : Nat) (r : List Int × Int × Unit) (g0 : List Int → List Int → Int → Option (Bool × Unit)) (l' : List Int) (left : List Int) (i : Int) : Option (Bool × Unit) :=
  bif decide (i < (↑l'.length : Int)) then
    bif decide (i < (↑left.length : Int)) then
      bif inb i l'.length then
        bif inb (IntKind.i64.wrap (IntKind.i64.wrap ((↑left.length : Int) - 1) - i)) left.length then
          bif l'.getD i.toNat 0 != left.getD (IntKind.i64.wrap (IntKind.i64.wrap ((↑left.length : Int) - 1) - i)).toNat 0 then
            some ((false, ()))
          else
            g0 l' left (IntKind.i64.wrap (i + 1))
        else
          none
      else
        none
    else
      bif r.snd.fst == 0 then
        some (((↑l'.length : Int) == (↑left.length : Int), ()))
      else
        some ((false, ()))
  else
    bif r.snd.fst == 0 then
      some (((↑l'.length : Int) == (↑left.length : Int), ()))
    else
      some ((false, ()))
def law_WayOrders_p (nf : Nat) (l0 : List Int × Int × Unit → List Int → List Int → Int → Option (Bool × Unit)) (next : List (List Int)) : Option (Bool × Unit) :=
  Option.bind (way_Order_f nf next) fun r =>
  Option.bind (ref_WayCheck_f nf next) fun r2 =>
  bif r2.fst != 0 then
    bif r.snd.fst == r2.fst then
      some (((↑(List.length r.fst) : Int) == 0, ()))
    else
      some ((false, ()))
  else
    Option.bind (ref_Walk_F nf (next, 0, [], [], ())) fun r3 =>
    l0 r r.fst r3.snd.fst 0
def law_WayOrders_l0 (nf : Nat) (r : List Int × Int × Unit) : Nat → List Int → List Int → Int → Option (Bool × Unit)
  | 0, _, _, _ => none
  | fu + 1, l', left, i => law_WayOrders_b0 nf  r  (law_WayOrders_l0 nf r  fu) l' left i
def law_WayOrders_f (nf : Nat) (next : List (List Int)) : Option (Bool × Unit) := law_WayOrders_p nf (fun p0 v0 v1 v2 => law_WayOrders_l0 nf p0 nf v0 v1 v2) next
noncomputable def law_WayOrders_L0 (nf : Nat) : LC (Bool × Unit) := theL (findL tab (law_WayOrders_phi nf) (fun _ F => iter nf F) law_WayOrders_keep 0 0 (codeOf Try.f5) (fin tab [(Ty.bool, Md.bor false true)] (resL (none) Try.f5)) (fun _ _ => none) (fin tab [(Ty.bool, Md.bor false true)] (resL (none) Try.f5)))
def law_WayOrders_m0 (r : List Int × Int × Unit) (l' : List Int) (left : List Int) (i : Int) : St := ⟨fresh, [(3, AV.ow 500003 (Ty.int IntKind.i64).sl (Md.own false (Md.bor false false)) l'), (4, AV.v (Ty.int IntKind.i64) (Md.bor false true) r.snd.fst), (7, AV.ow 500007 (Ty.int IntKind.i64).sl (Md.own false (Md.bor false false)) left), (8, AV.v (Ty.int IntKind.i64) (Md.bor false true) i), (9, AV.dead), (11, AV.dead), (12, AV.dead), (26, AV.dead), (28, AV.dead), (30, AV.dead)]⟩
theorem law_WayOrders_h0 (nf : Nat)  (r : List Int × Int × Unit) (fu : Nat) (l' : List Int) (left : List Int) (i : Int) : iter (fu + 1) (LC.F tab (law_WayOrders_phi nf) (fun _ F => iter nf F) law_WayOrders_keep 0 (law_WayOrders_L0 nf )) (law_WayOrders_m0 r l' left i) = law_WayOrders_b0 nf  r  (fun l' left i => iter fu (LC.F tab (law_WayOrders_phi nf) (fun _ F => iter nf F) law_WayOrders_keep 0 (law_WayOrders_L0 nf )) (law_WayOrders_m0 r l' left i)) l' left i := by kernel_rfl
theorem law_WayOrders_e0 (nf : Nat)  (r : List Int × Int × Unit) : ∀ (fu : Nat) (l' : List Int) (left : List Int) (i : Int), iter fu (LC.F tab (law_WayOrders_phi nf) (fun _ F => iter nf F) law_WayOrders_keep 0 (law_WayOrders_L0 nf )) (law_WayOrders_m0 r l' left i) = law_WayOrders_l0 nf r  fu l' left i := by
  intro fu
  induction fu with
  | zero => intros; rfl
  | succ fu ih =>
    intro l' left i
    rw [law_WayOrders_h0 nf  r fu l' left i]
    simp only [ih]
    rfl
theorem law_WayOrders_eq (nf : Nat) (next : List (List Int)) : runF tab (law_WayOrders_phi nf) law_WayOrders_keep nf [PT.val (Ty.int IntKind.i64).sl.sl (Md.bor true false)] [(Ty.bool, Md.bor false true)] (resL (none) Try.f5) (codeOf Try.f5) ⟨next, ()⟩ = law_WayOrders_f nf next := by
  have h : runF tab (law_WayOrders_phi nf) law_WayOrders_keep nf [PT.val (Ty.int IntKind.i64).sl.sl (Md.bor true false)] [(Ty.bool, Md.bor false true)] (resL (none) Try.f5) (codeOf Try.f5) ⟨next, ()⟩ = law_WayOrders_p nf (fun p0 v0 v1 v2 => iter nf (LC.F tab (law_WayOrders_phi nf) (fun _ F => iter nf F) law_WayOrders_keep 0 (law_WayOrders_L0 nf)) (law_WayOrders_m0 p0 v0 v1 v2)) next := by kernel_rfl
  rw [h]
  simp only [law_WayOrders_e0]
  rfl
def law_WayOrders_F (nf : Nat) (x : denPs [.val (.sl (.sl (.int .i64))) (.bor true false)]) : Option (denL [(.bool, .bor false true)]) := law_WayOrders_f nf x.1
def law_WayOrders_C (nf : Nat) : Contract := ⟨[.val (.sl (.sl (.int .i64))) (.bor true false)], [(.bool, .bor false true)], law_WayOrders_F nf, none⟩
theorem law_WayOrders_ok : FnOK Try.prog 5 := ⟨Try.f5, codeOf Try.f5, Try.func5, by kernel_rfl, by kernel_rfl⟩
theorem law_WayOrders_holds (nf : Nat) : Contract.Holds Try.prog 5 (law_WayOrders_C nf) :=
  fn_holds (Φ := law_WayOrders_phi nf) (keep := law_WayOrders_keep) (n := nf) ⟨tabs.1, tabs.2, (ctx_cons ref_WayCheck_ok (ref_WayCheck_holds nf) (ctx_cons way_Order_ok (way_Order_holds nf) (ctx_cons ref_Walk_ok (ref_Walk_holds nf) ctx_nil))), mixed⟩ (fn := Try.f5) ⟨Try.func5, by kernel_rfl, by kernel_rfl, by kernel_rfl⟩ (fun x => law_WayOrders_eq nf x.1)

/-! math bits.Mul32 -/
def bits_Mul32_phi (nf : Nat) : Nat → Option Contract := lookC []
def bits_Mul32_keep : Nat → List Nat := lookK []
def bits_Mul32_p (nf : Nat)  (x : Int) (y : Int) : Option (Int × Int × Unit) :=
  some ((IntKind.u32.wrap (shrI IntKind.u64 (IntKind.u64.wrap (IntKind.u64.wrap x * IntKind.u64.wrap y)) 32), IntKind.u32.wrap (IntKind.u64.wrap (IntKind.u64.wrap x * IntKind.u64.wrap y)), ()))
def bits_Mul32_f (nf : Nat) (x : Int) (y : Int) : Option (Int × Int × Unit) := bits_Mul32_p nf  x y
theorem bits_Mul32_eq (nf : Nat) (x : Int) (y : Int) : runF tab (bits_Mul32_phi nf) bits_Mul32_keep nf [PT.val (Ty.int IntKind.u32) (Md.bor true false), PT.val (Ty.int IntKind.u32) (Md.bor true false)] [(Ty.int IntKind.u32, Md.bor false true), (Ty.int IntKind.u32, Md.bor false true)] (resL (none) Try.f83) (codeOf Try.f83) ⟨x, y, ()⟩ = bits_Mul32_f nf x y := by
  have h : runF tab (bits_Mul32_phi nf) bits_Mul32_keep nf [PT.val (Ty.int IntKind.u32) (Md.bor true false), PT.val (Ty.int IntKind.u32) (Md.bor true false)] [(Ty.int IntKind.u32, Md.bor false true), (Ty.int IntKind.u32, Md.bor false true)] (resL (none) Try.f83) (codeOf Try.f83) ⟨x, y, ()⟩ = bits_Mul32_p nf  x y := by kernel_rfl
  exact h
def bits_Mul32_F (nf : Nat) (x : denPs [.val (.int .u32) (.bor true false), .val (.int .u32) (.bor true false)]) : Option (denL [(.int .u32, .bor false true), (.int .u32, .bor false true)]) := bits_Mul32_f nf x.1 x.2.1
def bits_Mul32_C (nf : Nat) : Contract := ⟨[.val (.int .u32) (.bor true false), .val (.int .u32) (.bor true false)], [(.int .u32, .bor false true), (.int .u32, .bor false true)], bits_Mul32_F nf, none⟩
theorem bits_Mul32_ok : FnOK Try.prog 83 := ⟨Try.f83, codeOf Try.f83, Try.func83, by kernel_rfl, by kernel_rfl⟩
theorem bits_Mul32_holds (nf : Nat) : Contract.Holds Try.prog 83 (bits_Mul32_C nf) :=
  fn_holds (Φ := bits_Mul32_phi nf) (keep := bits_Mul32_keep) (n := nf) ⟨tabs.1, tabs.2, ctx_nil, mixed⟩ (fn := Try.f83) ⟨Try.func83, by kernel_rfl, by kernel_rfl, by kernel_rfl⟩ (fun x => bits_Mul32_eq nf x.1 x.2.1)

/-! math bits.Mul64 -/
def bits_Mul64_phi (nf : Nat) : Nat → Option Contract := lookC []
def bits_Mul64_keep : Nat → List Nat := lookK []
def bits_Mul64_p (nf : Nat)  (x : Int) (y : Int) : Option (Int × Int × Unit) :=
  some ((IntKind.u64.wrap (IntKind.u64.wrap (IntKind.u64.wrap (shrI IntKind.u64 x 32 * shrI IntKind.u64 y 32) + shrI IntKind.u64 (IntKind.u64.wrap (IntKind.u64.wrap (shrI IntKind.u64 x 32 * IntKind.u64.wrap (↑(BitVec.ofInt IntKind.u64.bits y &&& BitVec.ofInt IntKind.u64.bits 4294967295).toNat : Int)) + shrI IntKind.u64 (IntKind.u64.wrap (IntKind.u64.wrap (↑(BitVec.ofInt IntKind.u64.bits x &&& BitVec.ofInt IntKind.u64.bits 4294967295).toNat : Int) * IntKind.u64.wrap (↑(BitVec.ofInt IntKind.u64.bits y &&& BitVec.ofInt IntKind.u64.bits 4294967295).toNat : Int))) 32)) 32) + shrI IntKind.u64 (IntKind.u64.wrap (IntKind.u64.wrap (↑(BitVec.ofInt IntKind.u64.bits (IntKind.u64.wrap (IntKind.u64.wrap (shrI IntKind.u64 x 32 * IntKind.u64.wrap (↑(BitVec.ofInt IntKind.u64.bits y &&& BitVec.ofInt IntKind.u64.bits 4294967295).toNat : Int)) + shrI IntKind.u64 (IntKind.u64.wrap (IntKind.u64.wrap (↑(BitVec.ofInt IntKind.u64.bits x &&& BitVec.ofInt IntKind.u64.bits 4294967295).toNat : Int) * IntKind.u64.wrap (↑(BitVec.ofInt IntKind.u64.bits y &&& BitVec.ofInt IntKind.u64.bits 4294967295).toNat : Int))) 32)) &&& BitVec.ofInt IntKind.u64.bits 4294967295).toNat : Int) + IntKind.u64.wrap (IntKind.u64.wrap (↑(BitVec.ofInt IntKind.u64.bits x &&& BitVec.ofInt IntKind.u64.bits 4294967295).toNat : Int) * shrI IntKind.u64 y 32))) 32), IntKind.u64.wrap (x * y), ()))
def bits_Mul64_f (nf : Nat) (x : Int) (y : Int) : Option (Int × Int × Unit) := bits_Mul64_p nf  x y
theorem bits_Mul64_eq (nf : Nat) (x : Int) (y : Int) : runF tab (bits_Mul64_phi nf) bits_Mul64_keep nf [PT.val (Ty.int IntKind.u64) (Md.bor true false), PT.val (Ty.int IntKind.u64) (Md.bor true false)] [(Ty.int IntKind.u64, Md.bor false true), (Ty.int IntKind.u64, Md.bor false true)] (resL (none) Try.f84) (codeOf Try.f84) ⟨x, y, ()⟩ = bits_Mul64_f nf x y := by
  have h : runF tab (bits_Mul64_phi nf) bits_Mul64_keep nf [PT.val (Ty.int IntKind.u64) (Md.bor true false), PT.val (Ty.int IntKind.u64) (Md.bor true false)] [(Ty.int IntKind.u64, Md.bor false true), (Ty.int IntKind.u64, Md.bor false true)] (resL (none) Try.f84) (codeOf Try.f84) ⟨x, y, ()⟩ = bits_Mul64_p nf  x y := by kernel_rfl
  exact h
def bits_Mul64_F (nf : Nat) (x : denPs [.val (.int .u64) (.bor true false), .val (.int .u64) (.bor true false)]) : Option (denL [(.int .u64, .bor false true), (.int .u64, .bor false true)]) := bits_Mul64_f nf x.1 x.2.1
def bits_Mul64_C (nf : Nat) : Contract := ⟨[.val (.int .u64) (.bor true false), .val (.int .u64) (.bor true false)], [(.int .u64, .bor false true), (.int .u64, .bor false true)], bits_Mul64_F nf, none⟩
theorem bits_Mul64_ok : FnOK Try.prog 84 := ⟨Try.f84, codeOf Try.f84, Try.func84, by kernel_rfl, by kernel_rfl⟩
theorem bits_Mul64_holds (nf : Nat) : Contract.Holds Try.prog 84 (bits_Mul64_C nf) :=
  fn_holds (Φ := bits_Mul64_phi nf) (keep := bits_Mul64_keep) (n := nf) ⟨tabs.1, tabs.2, ctx_nil, mixed⟩ (fn := Try.f84) ⟨Try.func84, by kernel_rfl, by kernel_rfl, by kernel_rfl⟩ (fun x => bits_Mul64_eq nf x.1 x.2.1)

/-! math bits.Mul -/
def bits_Mul_phi (nf : Nat) : Nat → Option Contract := lookC [(83, bits_Mul32_C nf), (84, bits_Mul64_C nf)]
def bits_Mul_keep : Nat → List Nat := lookK []
def bits_Mul_p (nf : Nat)  (x : Int) (y : Int) : Option (Int × Int × Unit) :=
  Option.bind (bits_Mul64_f nf x y) fun r =>
  some ((r.fst, r.snd.fst, ()))
def bits_Mul_f (nf : Nat) (x : Int) (y : Int) : Option (Int × Int × Unit) := bits_Mul_p nf  x y
theorem bits_Mul_eq (nf : Nat) (x : Int) (y : Int) : runF tab (bits_Mul_phi nf) bits_Mul_keep nf [PT.val (Ty.int IntKind.u64) (Md.bor true false), PT.val (Ty.int IntKind.u64) (Md.bor true false)] [(Ty.int IntKind.u64, Md.bor false true), (Ty.int IntKind.u64, Md.bor false true)] (resL (none) Try.f77) (codeOf Try.f77) ⟨x, y, ()⟩ = bits_Mul_f nf x y := by
  have h : runF tab (bits_Mul_phi nf) bits_Mul_keep nf [PT.val (Ty.int IntKind.u64) (Md.bor true false), PT.val (Ty.int IntKind.u64) (Md.bor true false)] [(Ty.int IntKind.u64, Md.bor false true), (Ty.int IntKind.u64, Md.bor false true)] (resL (none) Try.f77) (codeOf Try.f77) ⟨x, y, ()⟩ = bits_Mul_p nf  x y := by kernel_rfl
  exact h
def bits_Mul_F (nf : Nat) (x : denPs [.val (.int .u64) (.bor true false), .val (.int .u64) (.bor true false)]) : Option (denL [(.int .u64, .bor false true), (.int .u64, .bor false true)]) := bits_Mul_f nf x.1 x.2.1
def bits_Mul_C (nf : Nat) : Contract := ⟨[.val (.int .u64) (.bor true false), .val (.int .u64) (.bor true false)], [(.int .u64, .bor false true), (.int .u64, .bor false true)], bits_Mul_F nf, none⟩
theorem bits_Mul_ok : FnOK Try.prog 77 := ⟨Try.f77, codeOf Try.f77, Try.func77, by kernel_rfl, by kernel_rfl⟩
theorem bits_Mul_holds (nf : Nat) : Contract.Holds Try.prog 77 (bits_Mul_C nf) :=
  fn_holds (Φ := bits_Mul_phi nf) (keep := bits_Mul_keep) (n := nf) ⟨tabs.1, tabs.2, (ctx_cons bits_Mul32_ok (bits_Mul32_holds nf) (ctx_cons bits_Mul64_ok (bits_Mul64_holds nf) ctx_nil)), mixed⟩ (fn := Try.f77) ⟨Try.func77, by kernel_rfl, by kernel_rfl, by kernel_rfl⟩ (fun x => bits_Mul_eq nf x.1 x.2.1)

/-! slices.Repeat   int int  -/
def slices_Repeat_phi (nf : Nat) : Nat → Option Contract := lookC [(77, bits_Mul_C nf)]
def slices_Repeat_keep : Nat → List Nat := lookK [(0, [7, 8, 30])]
def slices_Repeat_b0 (nf : Nat)  (g0 : List Int → Int → Option (List Int × Unit)) (newslice : List Int) (n' : Int) : Option (List Int × Unit) :=
  bif decide (n' < (↑newslice.length : Int)) then
    bif decide (0 ≤ n') && decide (n' ≤ (↑newslice.length : Int)) && decide ((↑newslice.length : Int) ≤ (↑newslice.length : Int)) then
      bif decide (0 ≤ (↑0 : Int)) && decide ((↑0 : Int) ≤ n') && decide (n' ≤ (↑newslice.length : Int)) then
        g0 (List.take n'.toNat newslice ++ (List.take (((some ((↑newslice.length : Int) - n').toNat).getD newslice.length).min (List.take (n' - (↑0 : Int)).toNat (List.drop 0 newslice)).length) (List.take (n' - (↑0 : Int)).toNat (List.drop 0 newslice)) ++ List.drop (n'.toNat + ((some ((↑newslice.length : Int) - n').toNat).getD newslice.length).min (List.take (n' - (↑0 : Int)).toNat (List.drop 0 newslice)).length) newslice)) (IntKind.i64.wrap (n' + (↑(((some ((↑newslice.length : Int) - n').toNat).getD newslice.length).min (List.take (n' - (↑0 : Int)).toNat (List.drop 0 newslice)).length) : Int)))
      else
        none
    else
      none
  else
    some ((newslice, ()))
def slices_Repeat_p (nf : Nat) (l0 : List Int → Int → Option (List Int × Unit)) (x : List Int) (count : Int) : Option (List Int × Unit) :=
  bif decide (count < 0) then
    none
  else
    Option.bind (bits_Mul_f nf (IntKind.u64.wrap (↑x.length : Int)) (IntKind.u64.wrap count)) fun r =>
    bif decide (r.fst > 0) then
      none
    else
      bif decide (r.snd.fst > 9223372036854775807) then
        none
      else
        bif decide (0 ≤ IntKind.i64.wrap r.snd.fst) && decide (IntKind.i64.wrap r.snd.fst ≤ IntKind.i64.wrap r.snd.fst) && decide (IntKind.i64.wrap r.snd.fst ≤ (↑lim : Int)) then
          l0 (List.take 0 (List.replicate (IntKind.i64.wrap r.snd.fst).toNat 0) ++ (List.take ((none.getD (List.replicate (IntKind.i64.wrap r.snd.fst).toNat (0 : Int)).length).min x.length) x ++ List.drop (0 + (none.getD (List.replicate (IntKind.i64.wrap r.snd.fst).toNat (0 : Int)).length).min x.length) (List.replicate (IntKind.i64.wrap r.snd.fst).toNat 0))) ((↑((none.getD (List.replicate (IntKind.i64.wrap r.snd.fst).toNat (0 : Int)).length).min x.length) : Int))
        else
          none
def slices_Repeat_l0 (nf : Nat)  : Nat → List Int → Int → Option (List Int × Unit)
  | 0, _, _ => none
  | fu + 1, newslice, n' => slices_Repeat_b0 nf    (slices_Repeat_l0 nf   fu) newslice n'
def slices_Repeat_f (nf : Nat) (x : List Int) (count : Int) : Option (List Int × Unit) := slices_Repeat_p nf (fun  v0 v1 => slices_Repeat_l0 nf  nf v0 v1) x count
noncomputable def slices_Repeat_L0 (nf : Nat) : LC (List Int × Unit) := theL (findL tab (slices_Repeat_phi nf) (fun _ F => iter nf F) slices_Repeat_keep 0 0 (codeOf Try.f62) (fin tab [((Ty.int IntKind.i64).sl, Md.own false (Md.bor false false))] (resL (none) Try.f62)) (fun _ _ => none) (fin tab [((Ty.int IntKind.i64).sl, Md.own false (Md.bor false false))] (resL (none) Try.f62)))
def slices_Repeat_m0 (newslice : List Int) (n' : Int) : St := ⟨fresh, [(7, AV.ow 500007 (Ty.int IntKind.i64).sl (Md.own false (Md.bor false false)) newslice), (8, AV.v (Ty.int IntKind.i64) (Md.bor false true) n'), (30, AV.dead)]⟩
theorem slices_Repeat_h0 (nf : Nat)   (fu : Nat) (newslice : List Int) (n' : Int) : iter (fu + 1) (LC.F tab (slices_Repeat_phi nf) (fun _ F => iter nf F) slices_Repeat_keep 0 (slices_Repeat_L0 nf )) (slices_Repeat_m0  newslice n') = slices_Repeat_b0 nf    (fun newslice n' => iter fu (LC.F tab (slices_Repeat_phi nf) (fun _ F => iter nf F) slices_Repeat_keep 0 (slices_Repeat_L0 nf )) (slices_Repeat_m0  newslice n')) newslice n' := by kernel_rfl
theorem slices_Repeat_e0 (nf : Nat)   : ∀ (fu : Nat) (newslice : List Int) (n' : Int), iter fu (LC.F tab (slices_Repeat_phi nf) (fun _ F => iter nf F) slices_Repeat_keep 0 (slices_Repeat_L0 nf )) (slices_Repeat_m0  newslice n') = slices_Repeat_l0 nf   fu newslice n' := by
  intro fu
  induction fu with
  | zero => intros; rfl
  | succ fu ih =>
    intro newslice n'
    rw [slices_Repeat_h0 nf   fu newslice n']
    simp only [ih]
    rfl
theorem slices_Repeat_eq (nf : Nat) (x : List Int) (count : Int) : runF tab (slices_Repeat_phi nf) slices_Repeat_keep nf [PT.val (Ty.int IntKind.i64).sl (Md.bor true false), PT.val (Ty.int IntKind.i64) (Md.bor true false)] [((Ty.int IntKind.i64).sl, Md.own false (Md.bor false false))] (resL (none) Try.f62) (codeOf Try.f62) ⟨x, count, ()⟩ = slices_Repeat_f nf x count := by
  have h : runF tab (slices_Repeat_phi nf) slices_Repeat_keep nf [PT.val (Ty.int IntKind.i64).sl (Md.bor true false), PT.val (Ty.int IntKind.i64) (Md.bor true false)] [((Ty.int IntKind.i64).sl, Md.own false (Md.bor false false))] (resL (none) Try.f62) (codeOf Try.f62) ⟨x, count, ()⟩ = slices_Repeat_p nf (fun  v0 v1 => iter nf (LC.F tab (slices_Repeat_phi nf) (fun _ F => iter nf F) slices_Repeat_keep 0 (slices_Repeat_L0 nf)) (slices_Repeat_m0  v0 v1)) x count := by kernel_rfl
  rw [h]
  simp only [slices_Repeat_e0]
  rfl
def slices_Repeat_F (nf : Nat) (x : denPs [.val (.sl (.int .i64)) (.bor true false), .val (.int .i64) (.bor true false)]) : Option (denL [(.sl (.int .i64), .own false (.bor false false))]) := slices_Repeat_f nf x.1 x.2.1
def slices_Repeat_C (nf : Nat) : Contract := ⟨[.val (.sl (.int .i64)) (.bor true false), .val (.int .i64) (.bor true false)], [(.sl (.int .i64), .own false (.bor false false))], slices_Repeat_F nf, none⟩
theorem slices_Repeat_ok : FnOK Try.prog 62 := ⟨Try.f62, codeOf Try.f62, Try.func62, by kernel_rfl, by kernel_rfl⟩
theorem slices_Repeat_holds (nf : Nat) : Contract.Holds Try.prog 62 (slices_Repeat_C nf) :=
  fn_holds (Φ := slices_Repeat_phi nf) (keep := slices_Repeat_keep) (n := nf) ⟨tabs.1, tabs.2, (ctx_cons bits_Mul_ok (bits_Mul_holds nf) ctx_nil), mixed⟩ (fn := Try.f62) ⟨Try.func62, by kernel_rfl, by kernel_rfl, by kernel_rfl⟩ (fun x => slices_Repeat_eq nf x.1 x.2.1)

/-! slices.Index   int int  -/
def slices_Index_phi (nf : Nat) : Nat → Option Contract := lookC []
def slices_Index_keep : Nat → List Nat := lookK [(0, [0, 1, 7, 8])]
def slices_Index_b0 (nf : Nat) (s : List Int) (v : Int) (g0 : Int → Option (Int × Unit)) (t8 : Int) : Option (Int × Unit) :=
  bif decide (t8 < (↑s.length : Int)) then
    bif inb t8 s.length then
      bif v == s.getD t8.toNat 0 then
        some ((t8, ()))
      else
        g0 (IntKind.i64.wrap (t8 + 1))
    else
      none
  else
    some ((-1, ()))
def slices_Index_p (nf : Nat) (l0 : List Int → Int → Int → Option (Int × Unit)) (s : List Int) (v : Int) : Option (Int × Unit) :=
  l0 s v 0
def slices_Index_l0 (nf : Nat) (s : List Int) (v : Int) : Nat → Int → Option (Int × Unit)
  | 0, _ => none
  | fu + 1, t8 => slices_Index_b0 nf  s v  (slices_Index_l0 nf s v  fu) t8
def slices_Index_f (nf : Nat) (s : List Int) (v : Int) : Option (Int × Unit) := slices_Index_p nf (fun p0 p1 v0 => slices_Index_l0 nf p0 p1 nf v0) s v
noncomputable def slices_Index_L0 (nf : Nat) : LC (Int × Unit) := theL (findL tab (slices_Index_phi nf) (fun _ F => iter nf F) slices_Index_keep 0 0 (codeOf Try.f78) (fin tab [(Ty.int IntKind.i64, Md.bor false true)] (resL (none) Try.f78)) (fun _ _ => none) (fin tab [(Ty.int IntKind.i64, Md.bor false true)] (resL (none) Try.f78)))
def slices_Index_m0 (s : List Int) (v : Int) (t8 : Int) : St := ⟨fresh, [(0, AV.v (Ty.int IntKind.i64).sl (Md.bor true false) s), (1, AV.v (Ty.int IntKind.i64) (Md.bor false true) v), (7, AV.v (Ty.int IntKind.i64) (Md.bor false true) (↑s.length : Int)), (8, AV.v (Ty.int IntKind.i64) (Md.bor false true) t8)]⟩
theorem slices_Index_h0 (nf : Nat)  (s : List Int) (v : Int) (fu : Nat) (t8 : Int) : iter (fu + 1) (LC.F tab (slices_Index_phi nf) (fun _ F => iter nf F) slices_Index_keep 0 (slices_Index_L0 nf )) (slices_Index_m0 s v t8) = slices_Index_b0 nf  s v  (fun t8 => iter fu (LC.F tab (slices_Index_phi nf) (fun _ F => iter nf F) slices_Index_keep 0 (slices_Index_L0 nf )) (slices_Index_m0 s v t8)) t8 := by kernel_rfl
theorem slices_Index_e0 (nf : Nat)  (s : List Int) (v : Int) : ∀ (fu : Nat) (t8 : Int), iter fu (LC.F tab (slices_Index_phi nf) (fun _ F => iter nf F) slices_Index_keep 0 (slices_Index_L0 nf )) (slices_Index_m0 s v t8) = slices_Index_l0 nf s v  fu t8 := by
  intro fu
  induction fu with
  | zero => intros; rfl
  | succ fu ih =>
    intro t8
    rw [slices_Index_h0 nf  s v fu t8]
    simp only [ih]
    rfl
theorem slices_Index_eq (nf : Nat) (s : List Int) (v : Int) : runF tab (slices_Index_phi nf) slices_Index_keep nf [PT.val (Ty.int IntKind.i64).sl (Md.bor true false), PT.val (Ty.int IntKind.i64) (Md.bor true false)] [(Ty.int IntKind.i64, Md.bor false true)] (resL (none) Try.f78) (codeOf Try.f78) ⟨s, v, ()⟩ = slices_Index_f nf s v := by
  have h : runF tab (slices_Index_phi nf) slices_Index_keep nf [PT.val (Ty.int IntKind.i64).sl (Md.bor true false), PT.val (Ty.int IntKind.i64) (Md.bor true false)] [(Ty.int IntKind.i64, Md.bor false true)] (resL (none) Try.f78) (codeOf Try.f78) ⟨s, v, ()⟩ = slices_Index_p nf (fun p0 p1 v0 => iter nf (LC.F tab (slices_Index_phi nf) (fun _ F => iter nf F) slices_Index_keep 0 (slices_Index_L0 nf)) (slices_Index_m0 p0 p1 v0)) s v := by kernel_rfl
  rw [h]
  simp only [slices_Index_e0]
  rfl
def slices_Index_F (nf : Nat) (x : denPs [.val (.sl (.int .i64)) (.bor true false), .val (.int .i64) (.bor true false)]) : Option (denL [(.int .i64, .bor false true)]) := slices_Index_f nf x.1 x.2.1
def slices_Index_C (nf : Nat) : Contract := ⟨[.val (.sl (.int .i64)) (.bor true false), .val (.int .i64) (.bor true false)], [(.int .i64, .bor false true)], slices_Index_F nf, none⟩
theorem slices_Index_ok : FnOK Try.prog 78 := ⟨Try.f78, codeOf Try.f78, Try.func78, by kernel_rfl, by kernel_rfl⟩
theorem slices_Index_holds (nf : Nat) : Contract.Holds Try.prog 78 (slices_Index_C nf) :=
  fn_holds (Φ := slices_Index_phi nf) (keep := slices_Index_keep) (n := nf) ⟨tabs.1, tabs.2, ctx_nil, mixed⟩ (fn := Try.f78) ⟨Try.func78, by kernel_rfl, by kernel_rfl, by kernel_rfl⟩ (fun x => slices_Index_eq nf x.1 x.2.1)

/-! slices.Contains   int int  -/
def slices_Contains_phi (nf : Nat) : Nat → Option Contract := lookC [(78, slices_Index_C nf)]
def slices_Contains_keep : Nat → List Nat := lookK []
def slices_Contains_p (nf : Nat)  (s : List Int) (v : Int) : Option (Bool × Unit) :=
  Option.bind (slices_Index_f nf s v) fun r =>
  some ((decide (r.fst ≥ 0), ()))
def slices_Contains_f (nf : Nat) (s : List Int) (v : Int) : Option (Bool × Unit) := slices_Contains_p nf  s v
theorem slices_Contains_eq (nf : Nat) (s : List Int) (v : Int) : runF tab (slices_Contains_phi nf) slices_Contains_keep nf [PT.val (Ty.int IntKind.i64).sl (Md.bor true false), PT.val (Ty.int IntKind.i64) (Md.bor true false)] [(Ty.bool, Md.bor false true)] (resL (none) Try.f63) (codeOf Try.f63) ⟨s, v, ()⟩ = slices_Contains_f nf s v := by
  have h : runF tab (slices_Contains_phi nf) slices_Contains_keep nf [PT.val (Ty.int IntKind.i64).sl (Md.bor true false), PT.val (Ty.int IntKind.i64) (Md.bor true false)] [(Ty.bool, Md.bor false true)] (resL (none) Try.f63) (codeOf Try.f63) ⟨s, v, ()⟩ = slices_Contains_p nf  s v := by kernel_rfl
  exact h
def slices_Contains_F (nf : Nat) (x : denPs [.val (.sl (.int .i64)) (.bor true false), .val (.int .i64) (.bor true false)]) : Option (denL [(.bool, .bor false true)]) := slices_Contains_f nf x.1 x.2.1
def slices_Contains_C (nf : Nat) : Contract := ⟨[.val (.sl (.int .i64)) (.bor true false), .val (.int .i64) (.bor true false)], [(.bool, .bor false true)], slices_Contains_F nf, none⟩
theorem slices_Contains_ok : FnOK Try.prog 63 := ⟨Try.f63, codeOf Try.f63, Try.func63, by kernel_rfl, by kernel_rfl⟩
theorem slices_Contains_holds (nf : Nat) : Contract.Holds Try.prog 63 (slices_Contains_C nf) :=
  fn_holds (Φ := slices_Contains_phi nf) (keep := slices_Contains_keep) (n := nf) ⟨tabs.1, tabs.2, (ctx_cons slices_Index_ok (slices_Index_holds nf) ctx_nil), mixed⟩ (fn := Try.f63) ⟨Try.func63, by kernel_rfl, by kernel_rfl, by kernel_rfl⟩ (fun x => slices_Contains_eq nf x.1 x.2.1)

/-! codemason way.Back -/
def way_Back_phi (nf : Nat) : Nat → Option Contract := lookC [(20, way_Check_C nf), (60, way_walk_C nf), (62, slices_Repeat_C nf), (63, slices_Contains_C nf)]
def way_Back_keep : Nat → List Nat := lookK [(4, [0, 6, 9, 10, 11, 23, 36, 37, 38, 41, 42, 44, 45, 74]), (2, [0, 6, 9, 23, 36, 37, 38, 74]), (0, [0, 5, 6, 19, 23, 24, 25, 26, 74])]
def way_Back_b0 (nf : Nat) (l2 : List (List Int) → List Int → List (Int × Int × Unit) → Int → Option (List (Int × Int × Unit) × Int × Unit)) (next : List (List Int)) (r2 : List Int × Unit) (g0 : List Int → List Int → Int → Option (List (Int × Int × Unit) × Int × Unit)) (left : List Int) (at' : List Int) (t26 : Int) : Option (List (Int × Int × Unit) × Int × Unit) :=
  bif decide (t26 < (↑(List.length r2.fst) : Int)) then
    bif inb t26 left.length then
      bif inb (left.getD t26.toNat 0) at'.length then
        g0 left (at'.set (Int.toNat (left.getD t26.toNat 0)) t26) (IntKind.i64.wrap (t26 + 1))
      else
        none
    else
      none
  else
    l2 next at' [] 0
def way_Back_b2 (nf : Nat) (l4 : List (List Int) → Int → List Int → List (Int × Int × Unit) → Int → Option (List (Int × Int × Unit) × Int × Unit)) (next : List (List Int)) (g2 : List Int → List (Int × Int × Unit) → Int → Option (List (Int × Int × Unit) × Int × Unit)) (at'2 : List Int) (l' : List (Int × Int × Unit)) (t38 : Int) : Option (List (Int × Int × Unit) × Int × Unit) :=
  bif decide (t38 < (↑next.length : Int)) then
    bif inb t38 next.length then
      l4 next t38 at'2 l' 0
    else
      none
  else
    some ((l', 0, ()))
def way_Back_b4 (nf : Nat) (next : List (List Int)) (t38 : Int) (g2 : List Int → List (Int × Int × Unit) → Int → Option (List (Int × Int × Unit) × Int × Unit)) (g4 : List Int → List (Int × Int × Unit) → Int → Option (List (Int × Int × Unit) × Int × Unit)) (at'3 : List Int) (l'2 : List (Int × Int × Unit)) (t45 : Int) : Option (List (Int × Int × Unit) × Int × Unit) :=
  bif decide (t45 < (↑next.length : Int)) then
    bif inb t38 at'3.length then
      bif decide (at'3.getD t38.toNat 0 ≥ 0) then
        bif inb t38 at'3.length then
          bif inb t45 at'3.length then
            bif decide (at'3.getD t38.toNat 0 ≤ at'3.getD t45.toNat 0) then
              Option.bind (slices_Contains_f nf (next.getD t38.toNat []) t45) fun r4 =>
              bif r4.fst then
                bif bimp false ![(t38, t45, ())].isEmpty && (l'2.length + [(t38, t45, ())].length).ble lim then
                  g4 at'3 (l'2 ++ [(t38, t45, ())]) (IntKind.i64.wrap (t45 + 1))
                else
                  none
              else
                g4 at'3 l'2 (IntKind.i64.wrap (t45 + 1))
            else
              g4 at'3 l'2 (IntKind.i64.wrap (t45 + 1))
          else
            none
        else
          none
      else
        g4 at'3 l'2 (IntKind.i64.wrap (t45 + 1))
    else
      none
  else
    g2 at'3 l'2 (IntKind.i64.wrap (t38 + 1))
def way_Back_p (nf : Nat) (l0 : List (List Int) → List Int × Unit → List Int → List Int → Int → Option (List (Int × Int × Unit) × Int × Unit)) (next : List (List Int)) : Option (List (Int × Int × Unit) × Int × Unit) :=
  Option.bind (way_Check_f nf next) fun r =>
  bif r.fst != 0 then
    some (([], r.fst, ()))
  else
    Option.bind (way_walk_f nf next) fun r2 =>
    Option.bind (slices_Repeat_f nf ([-1]) ((↑next.length : Int))) fun r3 =>
    l0 next r2 r2.fst r3.fst 0
def way_Back_l4 (nf : Nat) (next : List (List Int)) (t38 : Int) (g2 : List Int → List (Int × Int × Unit) → Int → Option (List (Int × Int × Unit) × Int × Unit)) : Nat → List Int → List (Int × Int × Unit) → Int → Option (List (Int × Int × Unit) × Int × Unit)
  | 0, _, _, _ => none
  | fu + 1, at'3, l'2, t45 => way_Back_b4 nf  next t38 g2 (way_Back_l4 nf next t38 g2 fu) at'3 l'2 t45
def way_Back_l2 (nf : Nat) (next : List (List Int)) : Nat → List Int → List (Int × Int × Unit) → Int → Option (List (Int × Int × Unit) × Int × Unit)
  | 0, _, _, _ => none
  | fu + 1, at'2, l', t38 => way_Back_b2 nf (fun _ p1 v0 v1 v2 => way_Back_l4 nf next p1 (fun at'2 l' t38 => way_Back_l2 nf next  fu at'2 l' t38) nf v0 v1 v2) next  (way_Back_l2 nf next  fu) at'2 l' t38
def way_Back_l0 (nf : Nat) (next : List (List Int)) (r2 : List Int × Unit) : Nat → List Int → List Int → Int → Option (List (Int × Int × Unit) × Int × Unit)
  | 0, _, _, _ => none
  | fu + 1, left, at', t26 => way_Back_b0 nf (fun _ v0 v1 v2 => way_Back_l2 nf next  nf v0 v1 v2) next r2  (way_Back_l0 nf next r2  fu) left at' t26
def way_Back_f (nf : Nat) (next : List (List Int)) : Option (List (Int × Int × Unit) × Int × Unit) := way_Back_p nf (fun p0 p1 v0 v1 v2 => way_Back_l0 nf p0 p1 nf v0 v1 v2) next
noncomputable def way_Back_L0 (nf : Nat) : LC (List (Int × Int × Unit) × Int × Unit) := theL (findL tab (way_Back_phi nf) (fun _ F => iter nf F) way_Back_keep 0 0 (codeOf Try.f31) (fin tab [(((Ty.int IntKind.i64).pair ((Ty.int IntKind.i64).pair Ty.unit)).sl, Md.own false (Md.bor false false)), (Ty.int IntKind.i64, Md.bor false true)] (resL (none) Try.f31)) (fun _ _ => none) (fin tab [(((Ty.int IntKind.i64).pair ((Ty.int IntKind.i64).pair Ty.unit)).sl, Md.own false (Md.bor false false)), (Ty.int IntKind.i64, Md.bor false true)] (resL (none) Try.f31)))
def way_Back_m0 (next : List (List Int)) (r2 : List Int × Unit) (left : List Int) (at' : List Int) (t26 : Int) : St := ⟨fresh, [(0, AV.v (Ty.int IntKind.i64).sl.sl (Md.bor true false) next), (5, AV.ow 500005 (Ty.int IntKind.i64).sl (Md.own false (Md.bor false false)) left), (6, AV.ow 500006 (Ty.int IntKind.i64).sl (Md.own false (Md.bor false false)) at'), (19, AV.dead), (23, AV.dead), (24, AV.al 5 500005 []), (25, AV.v (Ty.int IntKind.i64) (Md.bor false true) (↑(List.length r2.fst) : Int)), (26, AV.v (Ty.int IntKind.i64) (Md.bor false true) t26), (74, AV.dead)]⟩
noncomputable def way_Back_L2 (nf : Nat) : LC (List (Int × Int × Unit) × Int × Unit) := theL (findL tab (way_Back_phi nf) (fun _ F => iter nf F) way_Back_keep 2 0 (codeOf Try.f31) (fin tab [(((Ty.int IntKind.i64).pair ((Ty.int IntKind.i64).pair Ty.unit)).sl, Md.own false (Md.bor false false)), (Ty.int IntKind.i64, Md.bor false true)] (resL (none) Try.f31)) (fun _ _ => none) (fin tab [(((Ty.int IntKind.i64).pair ((Ty.int IntKind.i64).pair Ty.unit)).sl, Md.own false (Md.bor false false)), (Ty.int IntKind.i64, Md.bor false true)] (resL (none) Try.f31)))
def way_Back_m2 (next : List (List Int)) (at'2 : List Int) (l' : List (Int × Int × Unit)) (t38 : Int) : St := ⟨fresh, [(0, AV.v (Ty.int IntKind.i64).sl.sl (Md.bor true false) next), (6, AV.ow 500006 (Ty.int IntKind.i64).sl (Md.own false (Md.bor false false)) at'2), (9, AV.ow 500009 ((Ty.int IntKind.i64).pair ((Ty.int IntKind.i64).pair Ty.unit)).sl (Md.own false (Md.bor false false)) l'), (23, AV.dead), (36, AV.v (Ty.int IntKind.i64).sl.sl (Md.bor true false) next), (37, AV.v (Ty.int IntKind.i64) (Md.bor false true) (↑next.length : Int)), (38, AV.v (Ty.int IntKind.i64) (Md.bor false true) t38), (74, AV.dead)]⟩
noncomputable def way_Back_L4 (nf : Nat) (G2 : St → Option (List (Int × Int × Unit) × Int × Unit)) : LC (List (Int × Int × Unit) × Int × Unit) := theL (findL tab (way_Back_phi nf) (fun _ F => iter nf F) way_Back_keep 4 2 (way_Back_L2 nf ).c (fun st => norm (way_Back_keep 2) st G2) (way_Back_L2 nf ).Kx (way_Back_L2 nf ).Kr)
def way_Back_m4 (next : List (List Int)) (t38 : Int) (at'3 : List Int) (l'2 : List (Int × Int × Unit)) (t45 : Int) : St := ⟨fresh, [(0, AV.v (Ty.int IntKind.i64).sl.sl (Md.bor true false) next), (6, AV.ow 500006 (Ty.int IntKind.i64).sl (Md.own false (Md.bor false false)) at'3), (9, AV.ow 500009 ((Ty.int IntKind.i64).pair ((Ty.int IntKind.i64).pair Ty.unit)).sl (Md.own false (Md.bor false false)) l'2), (10, AV.v (Ty.int IntKind.i64) (Md.bor false true) t38), (11, AV.v (Ty.int IntKind.i64).sl (Md.bor true false) (next.getD t38.toNat [])), (23, AV.dead), (36, AV.v (Ty.int IntKind.i64).sl.sl (Md.bor true false) next), (37, AV.v (Ty.int IntKind.i64) (Md.bor false true) (↑next.length : Int)), (38, AV.v (Ty.int IntKind.i64) (Md.bor false true) t38), (41, AV.rop (Ty.int IntKind.i64).sl (Md.bor true false) (next.getD t38.toNat [])), (42, AV.v (Ty.int IntKind.i64).sl (Md.bor true false) (next.getD t38.toNat [])), (44, AV.v (Ty.int IntKind.i64) (Md.bor false true) (↑next.length : Int)), (45, AV.v (Ty.int IntKind.i64) (Md.bor false true) t45), (74, AV.dead)]⟩
theorem way_Back_h4 (nf : Nat) (G2 : St → Option (List (Int × Int × Unit) × Int × Unit)) (next : List (List Int)) (t38 : Int) (fu : Nat) (at'3 : List Int) (l'2 : List (Int × Int × Unit)) (t45 : Int) : iter (fu + 1) (LC.F tab (way_Back_phi nf) (fun _ F => iter nf F) way_Back_keep 4 (way_Back_L4 nf G2)) (way_Back_m4 next t38 at'3 l'2 t45) = way_Back_b4 nf  next t38 (fun at'2 l' t38 => G2 (way_Back_m2 next at'2 l' t38)) (fun at'3 l'2 t45 => iter fu (LC.F tab (way_Back_phi nf) (fun _ F => iter nf F) way_Back_keep 4 (way_Back_L4 nf G2)) (way_Back_m4 next t38 at'3 l'2 t45)) at'3 l'2 t45 := by kernel_rfl
theorem way_Back_e4 (nf : Nat) (G2 : St → Option (List (Int × Int × Unit) × Int × Unit)) (next : List (List Int)) (t38 : Int) : ∀ (fu : Nat) (at'3 : List Int) (l'2 : List (Int × Int × Unit)) (t45 : Int), iter fu (LC.F tab (way_Back_phi nf) (fun _ F => iter nf F) way_Back_keep 4 (way_Back_L4 nf G2)) (way_Back_m4 next t38 at'3 l'2 t45) = way_Back_l4 nf next t38 (fun at'2 l' t38 => G2 (way_Back_m2 next at'2 l' t38)) fu at'3 l'2 t45 := by
  intro fu
  induction fu with
  | zero => intros; rfl
  | succ fu ih =>
    intro at'3 l'2 t45
    rw [way_Back_h4 nf G2 next t38 fu at'3 l'2 t45]
    simp only [ih]
    rfl
theorem way_Back_h2 (nf : Nat)  (next : List (List Int)) (fu : Nat) (at'2 : List Int) (l' : List (Int × Int × Unit)) (t38 : Int) : iter (fu + 1) (LC.F tab (way_Back_phi nf) (fun _ F => iter nf F) way_Back_keep 2 (way_Back_L2 nf )) (way_Back_m2 next at'2 l' t38) = way_Back_b2 nf (fun _ p1 v0 v1 v2 => iter nf (LC.F tab (way_Back_phi nf) (fun _ F => iter nf F) way_Back_keep 4 (way_Back_L4 nf (iter fu (LC.F tab (way_Back_phi nf) (fun _ F => iter nf F) way_Back_keep 2 (way_Back_L2 nf ))))) (way_Back_m4 next p1 v0 v1 v2)) next  (fun at'2 l' t38 => iter fu (LC.F tab (way_Back_phi nf) (fun _ F => iter nf F) way_Back_keep 2 (way_Back_L2 nf )) (way_Back_m2 next at'2 l' t38)) at'2 l' t38 := by kernel_rfl
theorem way_Back_e2 (nf : Nat)  (next : List (List Int)) : ∀ (fu : Nat) (at'2 : List Int) (l' : List (Int × Int × Unit)) (t38 : Int), iter fu (LC.F tab (way_Back_phi nf) (fun _ F => iter nf F) way_Back_keep 2 (way_Back_L2 nf )) (way_Back_m2 next at'2 l' t38) = way_Back_l2 nf next  fu at'2 l' t38 := by
  intro fu
  induction fu with
  | zero => intros; rfl
  | succ fu ih =>
    intro at'2 l' t38
    rw [way_Back_h2 nf  next fu at'2 l' t38]
    simp only [ih, way_Back_e4]
    rfl
theorem way_Back_h0 (nf : Nat)  (next : List (List Int)) (r2 : List Int × Unit) (fu : Nat) (left : List Int) (at' : List Int) (t26 : Int) : iter (fu + 1) (LC.F tab (way_Back_phi nf) (fun _ F => iter nf F) way_Back_keep 0 (way_Back_L0 nf )) (way_Back_m0 next r2 left at' t26) = way_Back_b0 nf (fun _ v0 v1 v2 => iter nf (LC.F tab (way_Back_phi nf) (fun _ F => iter nf F) way_Back_keep 2 (way_Back_L2 nf )) (way_Back_m2 next v0 v1 v2)) next r2  (fun left at' t26 => iter fu (LC.F tab (way_Back_phi nf) (fun _ F => iter nf F) way_Back_keep 0 (way_Back_L0 nf )) (way_Back_m0 next r2 left at' t26)) left at' t26 := by kernel_rfl
theorem way_Back_e0 (nf : Nat)  (next : List (List Int)) (r2 : List Int × Unit) : ∀ (fu : Nat) (left : List Int) (at' : List Int) (t26 : Int), iter fu (LC.F tab (way_Back_phi nf) (fun _ F => iter nf F) way_Back_keep 0 (way_Back_L0 nf )) (way_Back_m0 next r2 left at' t26) = way_Back_l0 nf next r2  fu left at' t26 := by
  intro fu
  induction fu with
  | zero => intros; rfl
  | succ fu ih =>
    intro left at' t26
    rw [way_Back_h0 nf  next r2 fu left at' t26]
    simp only [ih, way_Back_e2]
    rfl
theorem way_Back_eq (nf : Nat) (next : List (List Int)) : runF tab (way_Back_phi nf) way_Back_keep nf [PT.val (Ty.int IntKind.i64).sl.sl (Md.bor true false)] [(((Ty.int IntKind.i64).pair ((Ty.int IntKind.i64).pair Ty.unit)).sl, Md.own false (Md.bor false false)), (Ty.int IntKind.i64, Md.bor false true)] (resL (none) Try.f31) (codeOf Try.f31) ⟨next, ()⟩ = way_Back_f nf next := by
  have h : runF tab (way_Back_phi nf) way_Back_keep nf [PT.val (Ty.int IntKind.i64).sl.sl (Md.bor true false)] [(((Ty.int IntKind.i64).pair ((Ty.int IntKind.i64).pair Ty.unit)).sl, Md.own false (Md.bor false false)), (Ty.int IntKind.i64, Md.bor false true)] (resL (none) Try.f31) (codeOf Try.f31) ⟨next, ()⟩ = way_Back_p nf (fun p0 p1 v0 v1 v2 => iter nf (LC.F tab (way_Back_phi nf) (fun _ F => iter nf F) way_Back_keep 0 (way_Back_L0 nf)) (way_Back_m0 p0 p1 v0 v1 v2)) next := by kernel_rfl
  rw [h]
  simp only [way_Back_e0]
  rfl
def way_Back_F (nf : Nat) (x : denPs [.val (.sl (.sl (.int .i64))) (.bor true false)]) : Option (denL [(.sl (.pair (.int .i64) (.pair (.int .i64) (.unit))), .own false (.bor false false)), (.int .i64, .bor false true)]) := way_Back_f nf x.1
def way_Back_C (nf : Nat) : Contract := ⟨[.val (.sl (.sl (.int .i64))) (.bor true false)], [(.sl (.pair (.int .i64) (.pair (.int .i64) (.unit))), .own false (.bor false false)), (.int .i64, .bor false true)], way_Back_F nf, none⟩
theorem way_Back_ok : FnOK Try.prog 31 := ⟨Try.f31, codeOf Try.f31, Try.func31, by kernel_rfl, by kernel_rfl⟩
theorem way_Back_holds (nf : Nat) : Contract.Holds Try.prog 31 (way_Back_C nf) :=
  fn_holds (Φ := way_Back_phi nf) (keep := way_Back_keep) (n := nf) ⟨tabs.1, tabs.2, (ctx_cons way_Check_ok (way_Check_holds nf) (ctx_cons way_walk_ok (way_walk_holds nf) (ctx_cons slices_Repeat_ok (slices_Repeat_holds nf) (ctx_cons slices_Contains_ok (slices_Contains_holds nf) ctx_nil)))), mixed⟩ (fn := Try.f31) ⟨Try.func31, by kernel_rfl, by kernel_rfl, by kernel_rfl⟩ (fun x => way_Back_eq nf x.1)

/-! codemason codemasonref.Twos -/
def ref_Twos_phi (nf : Nat) : Nat → Option Contract := lookC []
def ref_Twos_keep : Nat → List Nat := lookK [(0, [0, 1, 5])]
def ref_Twos_b0 (nf : Nat) (a : List (Int × Int × Unit)) (b : List (Int × Int × Unit)) (g0 : Int → Option (Bool × Unit)) (i : Int) : Option (Bool × Unit) :=
  bif decide (i < (↑a.length : Int)) then
    bif inb i a.length then
      bif inb i b.length then
        bif !((a.getD i.toNat (0, 0, ())).fst == (b.getD i.toNat (0, 0, ())).fst && ((a.getD i.toNat (0, 0, ())).snd.fst == (b.getD i.toNat (0, 0, ())).snd.fst && true)) then
          some ((false, ()))
        else
          g0 (IntKind.i64.wrap (i + 1))
      else
        none
    else
      none
  else
    some ((true, ()))
def ref_Twos_p (nf : Nat) (l0 : List (Int × Int × Unit) → List (Int × Int × Unit) → Int → Option (Bool × Unit)) (a : List (Int × Int × Unit)) (b : List (Int × Int × Unit)) : Option (Bool × Unit) :=
  bif (↑a.length : Int) != (↑b.length : Int) then
    some ((false, ()))
  else
    l0 a b 0
def ref_Twos_l0 (nf : Nat) (a : List (Int × Int × Unit)) (b : List (Int × Int × Unit)) : Nat → Int → Option (Bool × Unit)
  | 0, _ => none
  | fu + 1, i => ref_Twos_b0 nf  a b  (ref_Twos_l0 nf a b  fu) i
def ref_Twos_f (nf : Nat) (a : List (Int × Int × Unit)) (b : List (Int × Int × Unit)) : Option (Bool × Unit) := ref_Twos_p nf (fun p0 p1 v0 => ref_Twos_l0 nf p0 p1 nf v0) a b
noncomputable def ref_Twos_L0 (nf : Nat) : LC (Bool × Unit) := theL (findL tab (ref_Twos_phi nf) (fun _ F => iter nf F) ref_Twos_keep 0 0 (codeOf Try.f32) (fin tab [(Ty.bool, Md.bor false true)] (resL (none) Try.f32)) (fun _ _ => none) (fin tab [(Ty.bool, Md.bor false true)] (resL (none) Try.f32)))
def ref_Twos_m0 (a : List (Int × Int × Unit)) (b : List (Int × Int × Unit)) (i : Int) : St := ⟨fresh, [(0, AV.v ((Ty.int IntKind.i64).pair ((Ty.int IntKind.i64).pair Ty.unit)).sl (Md.bor true false) a), (1, AV.v ((Ty.int IntKind.i64).pair ((Ty.int IntKind.i64).pair Ty.unit)).sl (Md.bor true false) b), (5, AV.v (Ty.int IntKind.i64) (Md.bor false true) i)]⟩
theorem ref_Twos_h0 (nf : Nat)  (a : List (Int × Int × Unit)) (b : List (Int × Int × Unit)) (fu : Nat) (i : Int) : iter (fu + 1) (LC.F tab (ref_Twos_phi nf) (fun _ F => iter nf F) ref_Twos_keep 0 (ref_Twos_L0 nf )) (ref_Twos_m0 a b i) = ref_Twos_b0 nf  a b  (fun i => iter fu (LC.F tab (ref_Twos_phi nf) (fun _ F => iter nf F) ref_Twos_keep 0 (ref_Twos_L0 nf )) (ref_Twos_m0 a b i)) i := by kernel_rfl
theorem ref_Twos_e0 (nf : Nat)  (a : List (Int × Int × Unit)) (b : List (Int × Int × Unit)) : ∀ (fu : Nat) (i : Int), iter fu (LC.F tab (ref_Twos_phi nf) (fun _ F => iter nf F) ref_Twos_keep 0 (ref_Twos_L0 nf )) (ref_Twos_m0 a b i) = ref_Twos_l0 nf a b  fu i := by
  intro fu
  induction fu with
  | zero => intros; rfl
  | succ fu ih =>
    intro i
    rw [ref_Twos_h0 nf  a b fu i]
    simp only [ih]
    rfl
theorem ref_Twos_eq (nf : Nat) (a : List (Int × Int × Unit)) (b : List (Int × Int × Unit)) : runF tab (ref_Twos_phi nf) ref_Twos_keep nf [PT.val ((Ty.int IntKind.i64).pair ((Ty.int IntKind.i64).pair Ty.unit)).sl (Md.bor true false), PT.val ((Ty.int IntKind.i64).pair ((Ty.int IntKind.i64).pair Ty.unit)).sl (Md.bor true false)] [(Ty.bool, Md.bor false true)] (resL (none) Try.f32) (codeOf Try.f32) ⟨a, b, ()⟩ = ref_Twos_f nf a b := by
  have h : runF tab (ref_Twos_phi nf) ref_Twos_keep nf [PT.val ((Ty.int IntKind.i64).pair ((Ty.int IntKind.i64).pair Ty.unit)).sl (Md.bor true false), PT.val ((Ty.int IntKind.i64).pair ((Ty.int IntKind.i64).pair Ty.unit)).sl (Md.bor true false)] [(Ty.bool, Md.bor false true)] (resL (none) Try.f32) (codeOf Try.f32) ⟨a, b, ()⟩ = ref_Twos_p nf (fun p0 p1 v0 => iter nf (LC.F tab (ref_Twos_phi nf) (fun _ F => iter nf F) ref_Twos_keep 0 (ref_Twos_L0 nf)) (ref_Twos_m0 p0 p1 v0)) a b := by kernel_rfl
  rw [h]
  simp only [ref_Twos_e0]
  rfl
def ref_Twos_F (nf : Nat) (x : denPs [.val (.sl (.pair (.int .i64) (.pair (.int .i64) (.unit)))) (.bor true false), .val (.sl (.pair (.int .i64) (.pair (.int .i64) (.unit)))) (.bor true false)]) : Option (denL [(.bool, .bor false true)]) := ref_Twos_f nf x.1 x.2.1
def ref_Twos_C (nf : Nat) : Contract := ⟨[.val (.sl (.pair (.int .i64) (.pair (.int .i64) (.unit)))) (.bor true false), .val (.sl (.pair (.int .i64) (.pair (.int .i64) (.unit)))) (.bor true false)], [(.bool, .bor false true)], ref_Twos_F nf, none⟩
theorem ref_Twos_ok : FnOK Try.prog 32 := ⟨Try.f32, codeOf Try.f32, Try.func32, by kernel_rfl, by kernel_rfl⟩
theorem ref_Twos_holds (nf : Nat) : Contract.Holds Try.prog 32 (ref_Twos_C nf) :=
  fn_holds (Φ := ref_Twos_phi nf) (keep := ref_Twos_keep) (n := nf) ⟨tabs.1, tabs.2, ctx_nil, mixed⟩ (fn := Try.f32) ⟨Try.func32, by kernel_rfl, by kernel_rfl, by kernel_rfl⟩ (fun x => ref_Twos_eq nf x.1 x.2.1)

/-! codemason codemasonref.BackPairs 1 -/
def ref_BackPairs_1_phi (nf : Nat) : Nat → Option Contract := lookC []
def ref_BackPairs_1_keep : Nat → List Nat := lookK [(0, [0, 1, 6, 7, 8])]
def ref_BackPairs_1_b0 (nf : Nat) (i : Int) (c1 : List Int) (g0 : Int → Option (Int × Unit)) (t8 : Int) : Option (Int × Unit) :=
  bif decide (t8 < (↑c1.length : Int)) then
    bif inb t8 c1.length then
      bif c1.getD t8.toNat 0 == i then
        some ((t8, ()))
      else
        g0 (IntKind.i64.wrap (t8 + 1))
    else
      none
  else
    some ((-1, ()))
def ref_BackPairs_1_p (nf : Nat) (l0 : Int → List Int → Int → Option (Int × Unit)) (i : Int) (c1 : List Int) : Option (Int × Unit) :=
  l0 i c1 0
def ref_BackPairs_1_l0 (nf : Nat) (i : Int) (c1 : List Int) : Nat → Int → Option (Int × Unit)
  | 0, _ => none
  | fu + 1, t8 => ref_BackPairs_1_b0 nf  i c1  (ref_BackPairs_1_l0 nf i c1  fu) t8
def ref_BackPairs_1_f (nf : Nat) (i : Int) (c1 : List Int) : Option (Int × Unit) := ref_BackPairs_1_p nf (fun p0 p1 v0 => ref_BackPairs_1_l0 nf p0 p1 nf v0) i c1
noncomputable def ref_BackPairs_1_L0 (nf : Nat) : LC (Int × Unit) := theL (findL tab (ref_BackPairs_1_phi nf) (fun _ F => iter nf F) ref_BackPairs_1_keep 0 0 (codeOf Try.f64) (fin tab [(Ty.int IntKind.i64, Md.bor false true)] (resL (none) Try.f64)) (fun _ _ => none) (fin tab [(Ty.int IntKind.i64, Md.bor false true)] (resL (none) Try.f64)))
def ref_BackPairs_1_m0 (i : Int) (c1 : List Int) (t8 : Int) : St := ⟨fresh, [(0, AV.v (Ty.int IntKind.i64) (Md.bor false true) i), (1, AV.rop (Ty.int IntKind.i64).sl (Md.bor true false) c1), (6, AV.v (Ty.int IntKind.i64).sl (Md.bor true false) c1), (7, AV.v (Ty.int IntKind.i64) (Md.bor false true) (↑c1.length : Int)), (8, AV.v (Ty.int IntKind.i64) (Md.bor false true) t8)]⟩
theorem ref_BackPairs_1_h0 (nf : Nat)  (i : Int) (c1 : List Int) (fu : Nat) (t8 : Int) : iter (fu + 1) (LC.F tab (ref_BackPairs_1_phi nf) (fun _ F => iter nf F) ref_BackPairs_1_keep 0 (ref_BackPairs_1_L0 nf )) (ref_BackPairs_1_m0 i c1 t8) = ref_BackPairs_1_b0 nf  i c1  (fun t8 => iter fu (LC.F tab (ref_BackPairs_1_phi nf) (fun _ F => iter nf F) ref_BackPairs_1_keep 0 (ref_BackPairs_1_L0 nf )) (ref_BackPairs_1_m0 i c1 t8)) t8 := by kernel_rfl
theorem ref_BackPairs_1_e0 (nf : Nat)  (i : Int) (c1 : List Int) : ∀ (fu : Nat) (t8 : Int), iter fu (LC.F tab (ref_BackPairs_1_phi nf) (fun _ F => iter nf F) ref_BackPairs_1_keep 0 (ref_BackPairs_1_L0 nf )) (ref_BackPairs_1_m0 i c1 t8) = ref_BackPairs_1_l0 nf i c1  fu t8 := by
  intro fu
  induction fu with
  | zero => intros; rfl
  | succ fu ih =>
    intro t8
    rw [ref_BackPairs_1_h0 nf  i c1 fu t8]
    simp only [ih]
    rfl
theorem ref_BackPairs_1_eq (nf : Nat) (i : Int) (c1 : List Int) : runF tab (ref_BackPairs_1_phi nf) ref_BackPairs_1_keep nf [PT.val (Ty.int IntKind.i64) (Md.bor true false), PT.ptr (Ty.int IntKind.i64).sl (Md.bor true false)] [(Ty.int IntKind.i64, Md.bor false true)] (resL (none) Try.f64) (codeOf Try.f64) ⟨i, c1, ()⟩ = ref_BackPairs_1_f nf i c1 := by
  have h : runF tab (ref_BackPairs_1_phi nf) ref_BackPairs_1_keep nf [PT.val (Ty.int IntKind.i64) (Md.bor true false), PT.ptr (Ty.int IntKind.i64).sl (Md.bor true false)] [(Ty.int IntKind.i64, Md.bor false true)] (resL (none) Try.f64) (codeOf Try.f64) ⟨i, c1, ()⟩ = ref_BackPairs_1_p nf (fun p0 p1 v0 => iter nf (LC.F tab (ref_BackPairs_1_phi nf) (fun _ F => iter nf F) ref_BackPairs_1_keep 0 (ref_BackPairs_1_L0 nf)) (ref_BackPairs_1_m0 p0 p1 v0)) i c1 := by kernel_rfl
  rw [h]
  simp only [ref_BackPairs_1_e0]
  rfl
def ref_BackPairs_1_F (nf : Nat) (x : denPs [.val (.int .i64) (.bor true false), .ptr (.sl (.int .i64)) (.bor true false)]) : Option (denL [(.int .i64, .bor false true)]) := ref_BackPairs_1_f nf x.1 x.2.1
def ref_BackPairs_1_C (nf : Nat) : Contract := ⟨[.val (.int .i64) (.bor true false), .ptr (.sl (.int .i64)) (.bor true false)], [(.int .i64, .bor false true)], ref_BackPairs_1_F nf, none⟩
theorem ref_BackPairs_1_ok : FnOK Try.prog 64 := ⟨Try.f64, codeOf Try.f64, Try.func64, by kernel_rfl, by kernel_rfl⟩
theorem ref_BackPairs_1_holds (nf : Nat) : Contract.Holds Try.prog 64 (ref_BackPairs_1_C nf) :=
  fn_holds (Φ := ref_BackPairs_1_phi nf) (keep := ref_BackPairs_1_keep) (n := nf) ⟨tabs.1, tabs.2, ctx_nil, mixed⟩ (fn := Try.f64) ⟨Try.func64, by kernel_rfl, by kernel_rfl, by kernel_rfl⟩ (fun x => ref_BackPairs_1_eq nf x.1 x.2.1)

/-! codemason codemasonref.BackPairs -/
def ref_BackPairs_phi (nf : Nat) : Nat → Option Contract := lookC [(26, ref_Walk_C nf), (28, ref_Has_C nf), (64, ref_BackPairs_1_C nf)]
def ref_BackPairs_keep : Nat → List Nat := lookK [(2, [0, 4, 5, 6, 7, 8, 14, 52]), (0, [0, 4, 5, 6, 7, 14, 52])]
def ref_BackPairs_b0 (nf : Nat) (l2 : List (List Int) → Int → List Int → List (Int × Int × Unit) → Int → Option (List (Int × Int × Unit) × Unit)) (next : List (List Int)) (g0 : List Int → List (Int × Int × Unit) → Int → Option (List (Int × Int × Unit) × Unit)) (left : List Int) (l' : List (Int × Int × Unit)) (i : Int) : Option (List (Int × Int × Unit) × Unit) :=
  bif decide (i < (↑next.length : Int)) then
    l2 next i left l' 0
  else
    some ((l', ()))
def ref_BackPairs_b2 (nf : Nat) (next : List (List Int)) (i : Int) (g0 : List Int → List (Int × Int × Unit) → Int → Option (List (Int × Int × Unit) × Unit)) (g2 : List Int → List (Int × Int × Unit) → Int → Option (List (Int × Int × Unit) × Unit)) (left2 : List Int) (l'2 : List (Int × Int × Unit)) (j : Int) : Option (List (Int × Int × Unit) × Unit) :=
  bif decide (j < (↑next.length : Int)) then
    Option.bind (ref_Has_f nf left2 i) fun r2 =>
    bif r2.fst then
      bif inb i next.length then
        Option.bind (ref_Has_f nf (next.getD i.toNat []) j) fun r3 =>
        bif r3.fst then
          Option.bind (ref_BackPairs_1_f nf i left2) fun r4 =>
          Option.bind (ref_BackPairs_1_f nf j left2) fun r5 =>
          bif decide (r4.fst ≤ r5.fst) then
            bif bimp false ![(i, j, ())].isEmpty && (l'2.length + [(i, j, ())].length).ble lim then
              g2 left2 (l'2 ++ [(i, j, ())]) (IntKind.i64.wrap (j + 1))
            else
              none
          else
            g2 left2 l'2 (IntKind.i64.wrap (j + 1))
        else
          g2 left2 l'2 (IntKind.i64.wrap (j + 1))
      else
        none
    else
      g2 left2 l'2 (IntKind.i64.wrap (j + 1))
  else
    g0 left2 l'2 (IntKind.i64.wrap (i + 1))
def ref_BackPairs_p (nf : Nat) (l0 : List (List Int) → List Int → List (Int × Int × Unit) → Int → Option (List (Int × Int × Unit) × Unit)) (next : List (List Int)) : Option (List (Int × Int × Unit) × Unit) :=
  Option.bind (ref_Walk_F nf (next, 0, [], [], ())) fun r =>
  l0 next r.snd.fst [] 0
def ref_BackPairs_l2 (nf : Nat) (next : List (List Int)) (i : Int) (g0 : List Int → List (Int × Int × Unit) → Int → Option (List (Int × Int × Unit) × Unit)) : Nat → List Int → List (Int × Int × Unit) → Int → Option (List (Int × Int × Unit) × Unit)
  | 0, _, _, _ => none
  | fu + 1, left2, l'2, j => ref_BackPairs_b2 nf  next i g0 (ref_BackPairs_l2 nf next i g0 fu) left2 l'2 j
def ref_BackPairs_l0 (nf : Nat) (next : List (List Int)) : Nat → List Int → List (Int × Int × Unit) → Int → Option (List (Int × Int × Unit) × Unit)
  | 0, _, _, _ => none
  | fu + 1, left, l', i => ref_BackPairs_b0 nf (fun _ p1 v0 v1 v2 => ref_BackPairs_l2 nf next p1 (fun left l' i => ref_BackPairs_l0 nf next  fu left l' i) nf v0 v1 v2) next  (ref_BackPairs_l0 nf next  fu) left l' i
def ref_BackPairs_f (nf : Nat) (next : List (List Int)) : Option (List (Int × Int × Unit) × Unit) := ref_BackPairs_p nf (fun p0 v0 v1 v2 => ref_BackPairs_l0 nf p0 nf v0 v1 v2) next
noncomputable def ref_BackPairs_L0 (nf : Nat) : LC (List (Int × Int × Unit) × Unit) := theL (findL tab (ref_BackPairs_phi nf) (fun _ F => iter nf F) ref_BackPairs_keep 0 0 (codeOf Try.f33) (fin tab [(((Ty.int IntKind.i64).pair ((Ty.int IntKind.i64).pair Ty.unit)).sl, Md.own false (Md.bor false false))] (resL (none) Try.f33)) (fun _ _ => none) (fin tab [(((Ty.int IntKind.i64).pair ((Ty.int IntKind.i64).pair Ty.unit)).sl, Md.own false (Md.bor false false))] (resL (none) Try.f33)))
def ref_BackPairs_m0 (next : List (List Int)) (left : List Int) (l' : List (Int × Int × Unit)) (i : Int) : St := ⟨fresh, [(0, AV.v (Ty.int IntKind.i64).sl.sl (Md.bor true false) next), (4, AV.box 4 500004 (Ty.int IntKind.i64).sl (Md.own false (Md.bor false false)) left), (5, AV.clo 64 [AV.pl 4 4 [Stp.dr]]), (6, AV.ow 500006 ((Ty.int IntKind.i64).pair ((Ty.int IntKind.i64).pair Ty.unit)).sl (Md.own false (Md.bor false false)) l'), (7, AV.v (Ty.int IntKind.i64) (Md.bor false true) i), (14, AV.clo 64 [AV.pl 4 4 [Stp.dr]]), (52, AV.dead)]⟩
noncomputable def ref_BackPairs_L2 (nf : Nat) (G0 : St → Option (List (Int × Int × Unit) × Unit)) : LC (List (Int × Int × Unit) × Unit) := theL (findL tab (ref_BackPairs_phi nf) (fun _ F => iter nf F) ref_BackPairs_keep 2 0 (ref_BackPairs_L0 nf ).c (fun st => norm (ref_BackPairs_keep 0) st G0) (ref_BackPairs_L0 nf ).Kx (ref_BackPairs_L0 nf ).Kr)
def ref_BackPairs_m2 (next : List (List Int)) (i : Int) (left2 : List Int) (l'2 : List (Int × Int × Unit)) (j : Int) : St := ⟨fresh, [(0, AV.v (Ty.int IntKind.i64).sl.sl (Md.bor true false) next), (4, AV.box 4 500004 (Ty.int IntKind.i64).sl (Md.own false (Md.bor false false)) left2), (5, AV.clo 64 [AV.pl 4 4 [Stp.dr]]), (6, AV.ow 500006 ((Ty.int IntKind.i64).pair ((Ty.int IntKind.i64).pair Ty.unit)).sl (Md.own false (Md.bor false false)) l'2), (7, AV.v (Ty.int IntKind.i64) (Md.bor false true) i), (8, AV.v (Ty.int IntKind.i64) (Md.bor false true) j), (14, AV.clo 64 [AV.pl 4 4 [Stp.dr]]), (52, AV.dead)]⟩
theorem ref_BackPairs_h2 (nf : Nat) (G0 : St → Option (List (Int × Int × Unit) × Unit)) (next : List (List Int)) (i : Int) (fu : Nat) (left2 : List Int) (l'2 : List (Int × Int × Unit)) (j : Int) : iter (fu + 1) (LC.F tab (ref_BackPairs_phi nf) (fun _ F => iter nf F) ref_BackPairs_keep 2 (ref_BackPairs_L2 nf G0)) (ref_BackPairs_m2 next i left2 l'2 j) = ref_BackPairs_b2 nf  next i (fun left l' i => G0 (ref_BackPairs_m0 next left l' i)) (fun left2 l'2 j => iter fu (LC.F tab (ref_BackPairs_phi nf) (fun _ F => iter nf F) ref_BackPairs_keep 2 (ref_BackPairs_L2 nf G0)) (ref_BackPairs_m2 next i left2 l'2 j)) left2 l'2 j := by kernel_rfl
theorem ref_BackPairs_e2 (nf : Nat) (G0 : St → Option (List (Int × Int × Unit) × Unit)) (next : List (List Int)) (i : Int) : ∀ (fu : Nat) (left2 : List Int) (l'2 : List (Int × Int × Unit)) (j : Int), iter fu (LC.F tab (ref_BackPairs_phi nf) (fun _ F => iter nf F) ref_BackPairs_keep 2 (ref_BackPairs_L2 nf G0)) (ref_BackPairs_m2 next i left2 l'2 j) = ref_BackPairs_l2 nf next i (fun left l' i => G0 (ref_BackPairs_m0 next left l' i)) fu left2 l'2 j := by
  intro fu
  induction fu with
  | zero => intros; rfl
  | succ fu ih =>
    intro left2 l'2 j
    rw [ref_BackPairs_h2 nf G0 next i fu left2 l'2 j]
    simp only [ih]
    rfl
theorem ref_BackPairs_h0 (nf : Nat)  (next : List (List Int)) (fu : Nat) (left : List Int) (l' : List (Int × Int × Unit)) (i : Int) : iter (fu + 1) (LC.F tab (ref_BackPairs_phi nf) (fun _ F => iter nf F) ref_BackPairs_keep 0 (ref_BackPairs_L0 nf )) (ref_BackPairs_m0 next left l' i) = ref_BackPairs_b0 nf (fun _ p1 v0 v1 v2 => iter nf (LC.F tab (ref_BackPairs_phi nf) (fun _ F => iter nf F) ref_BackPairs_keep 2 (ref_BackPairs_L2 nf (iter fu (LC.F tab (ref_BackPairs_phi nf) (fun _ F => iter nf F) ref_BackPairs_keep 0 (ref_BackPairs_L0 nf ))))) (ref_BackPairs_m2 next p1 v0 v1 v2)) next  (fun left l' i => iter fu (LC.F tab (ref_BackPairs_phi nf) (fun _ F => iter nf F) ref_BackPairs_keep 0 (ref_BackPairs_L0 nf )) (ref_BackPairs_m0 next left l' i)) left l' i := by kernel_rfl
theorem ref_BackPairs_e0 (nf : Nat)  (next : List (List Int)) : ∀ (fu : Nat) (left : List Int) (l' : List (Int × Int × Unit)) (i : Int), iter fu (LC.F tab (ref_BackPairs_phi nf) (fun _ F => iter nf F) ref_BackPairs_keep 0 (ref_BackPairs_L0 nf )) (ref_BackPairs_m0 next left l' i) = ref_BackPairs_l0 nf next  fu left l' i := by
  intro fu
  induction fu with
  | zero => intros; rfl
  | succ fu ih =>
    intro left l' i
    rw [ref_BackPairs_h0 nf  next fu left l' i]
    simp only [ih, ref_BackPairs_e2]
    rfl
theorem ref_BackPairs_eq (nf : Nat) (next : List (List Int)) : runF tab (ref_BackPairs_phi nf) ref_BackPairs_keep nf [PT.val (Ty.int IntKind.i64).sl.sl (Md.bor true false)] [(((Ty.int IntKind.i64).pair ((Ty.int IntKind.i64).pair Ty.unit)).sl, Md.own false (Md.bor false false))] (resL (none) Try.f33) (codeOf Try.f33) ⟨next, ()⟩ = ref_BackPairs_f nf next := by
  have h : runF tab (ref_BackPairs_phi nf) ref_BackPairs_keep nf [PT.val (Ty.int IntKind.i64).sl.sl (Md.bor true false)] [(((Ty.int IntKind.i64).pair ((Ty.int IntKind.i64).pair Ty.unit)).sl, Md.own false (Md.bor false false))] (resL (none) Try.f33) (codeOf Try.f33) ⟨next, ()⟩ = ref_BackPairs_p nf (fun p0 v0 v1 v2 => iter nf (LC.F tab (ref_BackPairs_phi nf) (fun _ F => iter nf F) ref_BackPairs_keep 0 (ref_BackPairs_L0 nf)) (ref_BackPairs_m0 p0 v0 v1 v2)) next := by kernel_rfl
  rw [h]
  simp only [ref_BackPairs_e0]
  rfl
def ref_BackPairs_F (nf : Nat) (x : denPs [.val (.sl (.sl (.int .i64))) (.bor true false)]) : Option (denL [(.sl (.pair (.int .i64) (.pair (.int .i64) (.unit))), .own false (.bor false false))]) := ref_BackPairs_f nf x.1
def ref_BackPairs_C (nf : Nat) : Contract := ⟨[.val (.sl (.sl (.int .i64))) (.bor true false)], [(.sl (.pair (.int .i64) (.pair (.int .i64) (.unit))), .own false (.bor false false))], ref_BackPairs_F nf, none⟩
theorem ref_BackPairs_ok : FnOK Try.prog 33 := ⟨Try.f33, codeOf Try.f33, Try.func33, by kernel_rfl, by kernel_rfl⟩
theorem ref_BackPairs_holds (nf : Nat) : Contract.Holds Try.prog 33 (ref_BackPairs_C nf) :=
  fn_holds (Φ := ref_BackPairs_phi nf) (keep := ref_BackPairs_keep) (n := nf) ⟨tabs.1, tabs.2, (ctx_cons ref_Walk_ok (ref_Walk_holds nf) (ctx_cons ref_Has_ok (ref_Has_holds nf) (ctx_cons ref_BackPairs_1_ok (ref_BackPairs_1_holds nf) ctx_nil))), mixed⟩ (fn := Try.f33) ⟨Try.func33, by kernel_rfl, by kernel_rfl, by kernel_rfl⟩ (fun x => ref_BackPairs_eq nf x.1)

/-! codemason codemasonlaw.WayBacks -/
def law_WayBacks_phi (nf : Nat) : Nat → Option Contract := lookC [(21, ref_WayCheck_C nf), (31, way_Back_C nf), (32, ref_Twos_C nf), (33, ref_BackPairs_C nf)]
def law_WayBacks_keep : Nat → List Nat := lookK []
def law_WayBacks_p (nf : Nat)  (next : List (List Int)) : Option (Bool × Unit) :=
  Option.bind (way_Back_f nf next) fun r =>
  Option.bind (ref_WayCheck_f nf next) fun r2 =>
  bif r2.fst != 0 then
    bif r.snd.fst == r2.fst then
      some (((↑(List.length r.fst) : Int) == 0, ()))
    else
      some ((false, ()))
  else
    bif r.snd.fst == 0 then
      Option.bind (ref_BackPairs_f nf next) fun r3 =>
      Option.bind (ref_Twos_f nf r.fst r3.fst) fun r4 =>
      some ((r4.fst, ()))
    else
      some ((false, ()))
def law_WayBacks_f (nf : Nat) (next : List (List Int)) : Option (Bool × Unit) := law_WayBacks_p nf  next
theorem law_WayBacks_eq (nf : Nat) (next : List (List Int)) : runF tab (law_WayBacks_phi nf) law_WayBacks_keep nf [PT.val (Ty.int IntKind.i64).sl.sl (Md.bor true false)] [(Ty.bool, Md.bor false true)] (resL (none) Try.f7) (codeOf Try.f7) ⟨next, ()⟩ = law_WayBacks_f nf next := by
  have h : runF tab (law_WayBacks_phi nf) law_WayBacks_keep nf [PT.val (Ty.int IntKind.i64).sl.sl (Md.bor true false)] [(Ty.bool, Md.bor false true)] (resL (none) Try.f7) (codeOf Try.f7) ⟨next, ()⟩ = law_WayBacks_p nf  next := by kernel_rfl
  exact h
def law_WayBacks_F (nf : Nat) (x : denPs [.val (.sl (.sl (.int .i64))) (.bor true false)]) : Option (denL [(.bool, .bor false true)]) := law_WayBacks_f nf x.1
def law_WayBacks_C (nf : Nat) : Contract := ⟨[.val (.sl (.sl (.int .i64))) (.bor true false)], [(.bool, .bor false true)], law_WayBacks_F nf, none⟩
theorem law_WayBacks_ok : FnOK Try.prog 7 := ⟨Try.f7, codeOf Try.f7, Try.func7, by kernel_rfl, by kernel_rfl⟩
theorem law_WayBacks_holds (nf : Nat) : Contract.Holds Try.prog 7 (law_WayBacks_C nf) :=
  fn_holds (Φ := law_WayBacks_phi nf) (keep := law_WayBacks_keep) (n := nf) ⟨tabs.1, tabs.2, (ctx_cons ref_WayCheck_ok (ref_WayCheck_holds nf) (ctx_cons way_Back_ok (way_Back_holds nf) (ctx_cons ref_Twos_ok (ref_Twos_holds nf) (ctx_cons ref_BackPairs_ok (ref_BackPairs_holds nf) ctx_nil)))), mixed⟩ (fn := Try.f7) ⟨Try.func7, by kernel_rfl, by kernel_rfl, by kernel_rfl⟩ (fun x => law_WayBacks_eq nf x.1)
end
end Go.Proofs.Ytccbcbhiblohgaa.S
