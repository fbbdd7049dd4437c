/- The functions of the code, as plain functions, and the theorems that say so: made by a program of this proof's own. -/
import Derived.Test.YtbmjodcgjhgpeaaAbCheck
import Derived.Test.YtbmjodcgjhgpeaaDel
import Derived.Test.YtbmjodcgjhgpeaaChecked
namespace Go.Proofs.Ytbmjodcgjhgpeaa.S
open Go Go.Ab
noncomputable section
def tab : Tab := ⟨lookT [(2, .int .i64), (3, .int .i64), (4, .bool), (5, .int .u8), (6, .int .u8), (7, .pair (.int .i64) (.pair (.int .i64) (.pair (.bool) (.pair (.int .u8) (.unit))))), (8, .pair (.int .i64) (.pair (.int .i64) (.pair (.bool) (.pair (.int .u8) (.unit))))), (12, .int .u64), (21, .int .i32), (22, .sl (.int .i64)), (23, .int .i64), (34, .int .u32), (36, .int .u64), (49, .int .u8), (50, .int .u8), (53, .int .i32), (54, .int .i32)], lookM [(2, .bor false true), (3, .bor false true), (4, .bor false true), (5, .bor false true), (6, .bor false true), (7, .bor false true), (8, .bor false true), (12, .bor false true), (21, .bor false true), (22, .own false (.bor false false)), (23, .bor false true), (34, .bor false true), (36, .bor false true), (49, .bor false true), (50, .bor false true), (53, .bor false true), (54, .bor false true)], hasT [45], hasT [9, 10, 11], fun _ => none⟩
theorem tabs : TabOK Try.prog tab ∧ EqOK Try.prog tab := tab_ok (by kernel_rfl) (by kernel_rfl)
theorem mixed : Try.prog.follows .mixedOrders = true := by kernel_rfl

/-! codemason hold.wrong -/
def hold_wrong_phi (nf : Nat) : Nat → Option Contract := lookC []
def hold_wrong_keep : Nat → List Nat := lookK []
def hold_wrong_p (nf : Nat)  (refs : List Int) (places : Int) : Option (Int × Unit) :=
  bif decide ((↑refs.length : Int) > 20) then
    some ((1, ()))
  else
    bif decide (places < 1) then
      some ((1, ()))
    else
      bif decide (places > 8) then
        some ((1, ()))
      else
        some ((0, ()))
def hold_wrong_f (nf : Nat) (refs : List Int) (places : Int) : Option (Int × Unit) := hold_wrong_p nf  refs places
theorem hold_wrong_eq (nf : Nat) (refs : List Int) (places : Int) : runF tab (hold_wrong_phi nf) hold_wrong_keep nf [PT.val (Ty.int IntKind.i64).sl (Md.bor true false), PT.val (Ty.int IntKind.i64) (Md.bor true false)] [(Ty.int IntKind.i64, Md.bor false true)] (resL (none) Try.f15) (codeOf Try.f15) ⟨refs, places, ()⟩ = hold_wrong_f nf refs places := by
  have h : runF tab (hold_wrong_phi nf) hold_wrong_keep nf [PT.val (Ty.int IntKind.i64).sl (Md.bor true false), PT.val (Ty.int IntKind.i64) (Md.bor true false)] [(Ty.int IntKind.i64, Md.bor false true)] (resL (none) Try.f15) (codeOf Try.f15) ⟨refs, places, ()⟩ = hold_wrong_p nf  refs places := by kernel_rfl
  exact h
def hold_wrong_F (nf : Nat) (x : denPs [.val (.sl (.int .i64)) (.bor true false), .val (.int .i64) (.bor true false)]) : Option (denL [(.int .i64, .bor false true)]) := hold_wrong_f nf x.1 x.2.1
def hold_wrong_C (nf : Nat) : Contract := ⟨[.val (.sl (.int .i64)) (.bor true false), .val (.int .i64) (.bor true false)], [(.int .i64, .bor false true)], hold_wrong_F nf, none⟩
theorem hold_wrong_ok : FnOK Try.prog 15 := ⟨Try.f15, codeOf Try.f15, Try.func15, by kernel_rfl, by kernel_rfl⟩
theorem hold_wrong_holds (nf : Nat) : Contract.Holds Try.prog 15 (hold_wrong_C nf) :=
  fn_holds (Φ := hold_wrong_phi nf) (keep := hold_wrong_keep) (n := nf) ⟨tabs.1, tabs.2, ctx_nil, mixed⟩ (fn := Try.f15) ⟨Try.func15, by kernel_rfl, by kernel_rfl, by kernel_rfl⟩ (fun x => hold_wrong_eq nf x.1 x.2.1)

/-! codemason hold.first -/
def hold_first_phi (nf : Nat) : Nat → Option Contract := lookC []
def hold_first_keep : Nat → List Nat := lookK []
def hold_first_p (nf : Nat)  (x0 : Int) (x1 : List Int) : Option (Int × Unit) :=
  some ((0, ()))
def hold_first_f (nf : Nat) (x0 : Int) (x1 : List Int) : Option (Int × Unit) := hold_first_p nf  x0 x1
theorem hold_first_eq (nf : Nat) (x0 : Int) (x1 : List Int) : runF tab (hold_first_phi nf) hold_first_keep nf [PT.val (Ty.int IntKind.i64) (Md.bor true false), PT.val (Ty.int IntKind.i64).sl (Md.bor true false)] [(Ty.int IntKind.i64, Md.bor false true)] (resL (none) Try.f17) (codeOf Try.f17) ⟨x0, x1, ()⟩ = hold_first_f nf x0 x1 := by
  have h : runF tab (hold_first_phi nf) hold_first_keep nf [PT.val (Ty.int IntKind.i64) (Md.bor true false), PT.val (Ty.int IntKind.i64).sl (Md.bor true false)] [(Ty.int IntKind.i64, Md.bor false true)] (resL (none) Try.f17) (codeOf Try.f17) ⟨x0, x1, ()⟩ = hold_first_p nf  x0 x1 := by kernel_rfl
  exact h
def hold_first_F (nf : Nat) (x : denPs [.val (.int .i64) (.bor true false), .val (.sl (.int .i64)) (.bor true false)]) : Option (denL [(.int .i64, .bor false true)]) := hold_first_f nf x.1 x.2.1
def hold_first_C (nf : Nat) : Contract := ⟨[.val (.int .i64) (.bor true false), .val (.sl (.int .i64)) (.bor true false)], [(.int .i64, .bor false true)], hold_first_F nf, none⟩
theorem hold_first_ok : FnOK Try.prog 17 := ⟨Try.f17, codeOf Try.f17, Try.func17, by kernel_rfl, by kernel_rfl⟩
theorem hold_first_holds (nf : Nat) : Contract.Holds Try.prog 17 (hold_first_C nf) :=
  fn_holds (Φ := hold_first_phi nf) (keep := hold_first_keep) (n := nf) ⟨tabs.1, tabs.2, ctx_nil, mixed⟩ (fn := Try.f17) ⟨Try.func17, by kernel_rfl, by kernel_rfl, by kernel_rfl⟩ (fun x => hold_first_eq nf x.1 x.2.1)

/-! slices.Index   int int  -/
def slices_Index_phi (nf : Nat) : Nat → Option Contract := lookC []
def slices_Index_keep : Nat → List Nat := lookK [(0, [0, 1, 7, 8])]
def slices_Index_b0 (nf : Nat) (s : List Int) (v : Int) (g0 : Int → Option (Int × Unit)) (t8 : Int) : Option (Int × Unit) :=
  bif decide (t8 < (↑s.length : Int)) then
    bif inb t8 s.length then
      bif v == s.getD t8.toNat 0 then
        some ((t8, ()))
      else
        g0 (IntKind.i64.wrap (t8 + 1))
    else
      none
  else
    some ((-1, ()))
def slices_Index_p (nf : Nat) (l0 : List Int → Int → Int → Option (Int × Unit)) (s : List Int) (v : Int) : Option (Int × Unit) :=
  l0 s v 0
def slices_Index_l0 (nf : Nat) (s : List Int) (v : Int) : Nat → Int → Option (Int × Unit)
  | 0, _ => none
  | fu + 1, t8 => slices_Index_b0 nf  s v  (slices_Index_l0 nf s v  fu) t8
def slices_Index_f (nf : Nat) (s : List Int) (v : Int) : Option (Int × Unit) := slices_Index_p nf (fun p0 p1 v0 => slices_Index_l0 nf p0 p1 nf v0) s v
noncomputable def slices_Index_L0 (nf : Nat) : LC (Int × Unit) := theL (findL tab (slices_Index_phi nf) (fun _ F => iter nf F) slices_Index_keep 0 0 (codeOf Try.f19) (fin tab [(Ty.int IntKind.i64, Md.bor false true)] (resL (none) Try.f19)) (fun _ _ => none) (fin tab [(Ty.int IntKind.i64, Md.bor false true)] (resL (none) Try.f19)))
def slices_Index_m0 (s : List Int) (v : Int) (t8 : Int) : St := ⟨fresh, [(0, AV.v (Ty.int IntKind.i64).sl (Md.bor true false) s), (1, AV.v (Ty.int IntKind.i64) (Md.bor false true) v), (7, AV.v (Ty.int IntKind.i64) (Md.bor false true) (↑s.length : Int)), (8, AV.v (Ty.int IntKind.i64) (Md.bor false true) t8)]⟩
theorem slices_Index_h0 (nf : Nat)  (s : List Int) (v : Int) (fu : Nat) (t8 : Int) : iter (fu + 1) (LC.F tab (slices_Index_phi nf) (fun _ F => iter nf F) slices_Index_keep 0 (slices_Index_L0 nf )) (slices_Index_m0 s v t8) = slices_Index_b0 nf  s v  (fun t8 => iter fu (LC.F tab (slices_Index_phi nf) (fun _ F => iter nf F) slices_Index_keep 0 (slices_Index_L0 nf )) (slices_Index_m0 s v t8)) t8 := by kernel_rfl
theorem slices_Index_e0 (nf : Nat)  (s : List Int) (v : Int) : ∀ (fu : Nat) (t8 : Int), iter fu (LC.F tab (slices_Index_phi nf) (fun _ F => iter nf F) slices_Index_keep 0 (slices_Index_L0 nf )) (slices_Index_m0 s v t8) = slices_Index_l0 nf s v  fu t8 := by
  intro fu
  induction fu with
  | zero => intros; rfl
  | succ fu ih =>
    intro t8
    rw [slices_Index_h0 nf  s v fu t8]
    simp only [ih]
    rfl
theorem slices_Index_eq (nf : Nat) (s : List Int) (v : Int) : runF tab (slices_Index_phi nf) slices_Index_keep nf [PT.val (Ty.int IntKind.i64).sl (Md.bor true false), PT.val (Ty.int IntKind.i64) (Md.bor true false)] [(Ty.int IntKind.i64, Md.bor false true)] (resL (none) Try.f19) (codeOf Try.f19) ⟨s, v, ()⟩ = slices_Index_f nf s v := by
  have h : runF tab (slices_Index_phi nf) slices_Index_keep nf [PT.val (Ty.int IntKind.i64).sl (Md.bor true false), PT.val (Ty.int IntKind.i64) (Md.bor true false)] [(Ty.int IntKind.i64, Md.bor false true)] (resL (none) Try.f19) (codeOf Try.f19) ⟨s, v, ()⟩ = slices_Index_p nf (fun p0 p1 v0 => iter nf (LC.F tab (slices_Index_phi nf) (fun _ F => iter nf F) slices_Index_keep 0 (slices_Index_L0 nf)) (slices_Index_m0 p0 p1 v0)) s v := by kernel_rfl
  rw [h]
  simp only [slices_Index_e0]
  rfl
def slices_Index_F (nf : Nat) (x : denPs [.val (.sl (.int .i64)) (.bor true false), .val (.int .i64) (.bor true false)]) : Option (denL [(.int .i64, .bor false true)]) := slices_Index_f nf x.1 x.2.1
def slices_Index_C (nf : Nat) : Contract := ⟨[.val (.sl (.int .i64)) (.bor true false), .val (.int .i64) (.bor true false)], [(.int .i64, .bor false true)], slices_Index_F nf, none⟩
theorem slices_Index_ok : FnOK Try.prog 19 := ⟨Try.f19, codeOf Try.f19, Try.func19, by kernel_rfl, by kernel_rfl⟩
theorem slices_Index_holds (nf : Nat) : Contract.Holds Try.prog 19 (slices_Index_C nf) :=
  fn_holds (Φ := slices_Index_phi nf) (keep := slices_Index_keep) (n := nf) ⟨tabs.1, tabs.2, ctx_nil, mixed⟩ (fn := Try.f19) ⟨Try.func19, by kernel_rfl, by kernel_rfl, by kernel_rfl⟩ (fun x => slices_Index_eq nf x.1 x.2.1)

/-! codemason hold.play codemason hold.first -/
def hold_play__hold_first_phi (nf : Nat) : Nat → Option Contract := lookC [(17, hold_first_C nf), (19, slices_Index_C nf), (24, slices_Delete_C nf)]
def hold_play__hold_first_keep : Nat → List Nat := lookK [(0, [0, 1, 2, 3, 9, 10, 15, 16, 17, 35, 52, 56])]
def hold_play__hold_first_b0 (nf : Nat) (refs : List Int) (places : Int) (again : Bool) (g0 : List Int → Int → Int → Option (Int × Unit)) (there : List Int) (miss : Int) (t17 : Int) : Option (Int × Unit) :=
  bif decide (t17 < (↑refs.length : Int)) then
    bif inb t17 refs.length then
      Option.bind (slices_Index_f nf there (refs.getD t17.toNat 0)) fun r =>
      bif decide (r.fst ≥ 0) then
        bif again then
          Option.bind (slices_Delete_f nf there r.fst (IntKind.i64.wrap (r.fst + 1))) fun r2 =>
          bif bimp false ![refs.getD t17.toNat 0].isEmpty && (List.length r2.fst + [refs.getD t17.toNat 0].length).ble lim then
            g0 (r2.fst ++ [refs.getD t17.toNat 0]) miss (IntKind.i64.wrap (t17 + 1))
          else
            none
        else
          g0 there miss (IntKind.i64.wrap (t17 + 1))
      else
        bif (↑there.length : Int) == places then
          Option.bind (hold_first_f nf t17 there) fun r3 =>
          bif decide (r3.fst < 0) then
            some ((-1, ()))
          else
            Option.bind (slices_Delete_f nf there r3.fst (IntKind.i64.wrap (r3.fst + 1))) fun r4 =>
            bif bimp false ![refs.getD t17.toNat 0].isEmpty && (List.length r4.fst + [refs.getD t17.toNat 0].length).ble lim then
              g0 (r4.fst ++ [refs.getD t17.toNat 0]) (IntKind.i64.wrap (miss + 1)) (IntKind.i64.wrap (t17 + 1))
            else
              none
        else
          bif bimp false ![refs.getD t17.toNat 0].isEmpty && (there.length + [refs.getD t17.toNat 0].length).ble lim then
            g0 (there ++ [refs.getD t17.toNat 0]) (IntKind.i64.wrap (miss + 1)) (IntKind.i64.wrap (t17 + 1))
          else
            none
    else
      none
  else
    some ((miss, ()))
def hold_play__hold_first_p (nf : Nat) (l0 : List Int → Int → Bool → List Int → Int → Int → Option (Int × Unit)) (refs : List Int) (places : Int) (again : Bool) (goes : Unit) : Option (Int × Unit) :=
  l0 refs places again [] 0 0
def hold_play__hold_first_l0 (nf : Nat) (refs : List Int) (places : Int) (again : Bool) : Nat → List Int → Int → Int → Option (Int × Unit)
  | 0, _, _, _ => none
  | fu + 1, there, miss, t17 => hold_play__hold_first_b0 nf  refs places again  (hold_play__hold_first_l0 nf refs places again  fu) there miss t17
def hold_play__hold_first_f (nf : Nat) (refs : List Int) (places : Int) (again : Bool) (goes : Unit) : Option (Int × Unit) := hold_play__hold_first_p nf (fun p0 p1 p2 v0 v1 v2 => hold_play__hold_first_l0 nf p0 p1 p2 nf v0 v1 v2) refs places again goes
noncomputable def hold_play__hold_first_L0 (nf : Nat) : LC (Int × Unit) := theL (findL tab (hold_play__hold_first_phi nf) (fun _ F => iter nf F) hold_play__hold_first_keep 0 0 (codeOf Try.f16) (fin tab [(Ty.int IntKind.i64, Md.bor false true)] (resL (none) Try.f16)) (fun _ _ => none) (fin tab [(Ty.int IntKind.i64, Md.bor false true)] (resL (none) Try.f16)))
def hold_play__hold_first_m0 (refs : List Int) (places : Int) (again : Bool) (there : List Int) (miss : Int) (t17 : Int) : St := ⟨fresh, [(0, AV.v (Ty.int IntKind.i64).sl (Md.bor true false) refs), (1, AV.v (Ty.int IntKind.i64) (Md.bor false true) places), (2, AV.v Ty.bool (Md.bor false true) again), (3, AV.clo 17 []), (9, AV.ow 500009 (Ty.int IntKind.i64).sl (Md.own false (Md.bor false false)) there), (10, AV.v (Ty.int IntKind.i64) (Md.bor false true) miss), (15, AV.v (Ty.int IntKind.i64).sl (Md.bor true false) refs), (16, AV.v (Ty.int IntKind.i64) (Md.bor false true) (↑refs.length : Int)), (17, AV.v (Ty.int IntKind.i64) (Md.bor false true) t17), (35, AV.dead), (52, AV.dead), (56, AV.dead)]⟩
theorem hold_play__hold_first_h0 (nf : Nat)  (refs : List Int) (places : Int) (again : Bool) (fu : Nat) (there : List Int) (miss : Int) (t17 : Int) : iter (fu + 1) (LC.F tab (hold_play__hold_first_phi nf) (fun _ F => iter nf F) hold_play__hold_first_keep 0 (hold_play__hold_first_L0 nf )) (hold_play__hold_first_m0 refs places again there miss t17) = hold_play__hold_first_b0 nf  refs places again  (fun there miss t17 => iter fu (LC.F tab (hold_play__hold_first_phi nf) (fun _ F => iter nf F) hold_play__hold_first_keep 0 (hold_play__hold_first_L0 nf )) (hold_play__hold_first_m0 refs places again there miss t17)) there miss t17 := by kernel_rfl
theorem hold_play__hold_first_e0 (nf : Nat)  (refs : List Int) (places : Int) (again : Bool) : ∀ (fu : Nat) (there : List Int) (miss : Int) (t17 : Int), iter fu (LC.F tab (hold_play__hold_first_phi nf) (fun _ F => iter nf F) hold_play__hold_first_keep 0 (hold_play__hold_first_L0 nf )) (hold_play__hold_first_m0 refs places again there miss t17) = hold_play__hold_first_l0 nf refs places again  fu there miss t17 := by
  intro fu
  induction fu with
  | zero => intros; rfl
  | succ fu ih =>
    intro there miss t17
    rw [hold_play__hold_first_h0 nf  refs places again fu there miss t17]
    simp only [ih]
    rfl
theorem hold_play__hold_first_eq (nf : Nat) (refs : List Int) (places : Int) (again : Bool) (goes : Unit) : runF tab (hold_play__hold_first_phi nf) hold_play__hold_first_keep nf [PT.val (Ty.int IntKind.i64).sl (Md.bor true false), PT.val (Ty.int IntKind.i64) (Md.bor true false), PT.val Ty.bool (Md.bor true false), PT.clo 17 []] [(Ty.int IntKind.i64, Md.bor false true)] (resL (none) Try.f16) (codeOf Try.f16) ⟨refs, places, again, goes, ()⟩ = hold_play__hold_first_f nf refs places again goes := by
  have h : runF tab (hold_play__hold_first_phi nf) hold_play__hold_first_keep nf [PT.val (Ty.int IntKind.i64).sl (Md.bor true false), PT.val (Ty.int IntKind.i64) (Md.bor true false), PT.val Ty.bool (Md.bor true false), PT.clo 17 []] [(Ty.int IntKind.i64, Md.bor false true)] (resL (none) Try.f16) (codeOf Try.f16) ⟨refs, places, again, goes, ()⟩ = hold_play__hold_first_p nf (fun p0 p1 p2 v0 v1 v2 => iter nf (LC.F tab (hold_play__hold_first_phi nf) (fun _ F => iter nf F) hold_play__hold_first_keep 0 (hold_play__hold_first_L0 nf)) (hold_play__hold_first_m0 p0 p1 p2 v0 v1 v2)) refs places again goes := by kernel_rfl
  rw [h]
  simp only [hold_play__hold_first_e0]
  rfl
def hold_play__hold_first_F (nf : Nat) (x : denPs [.val (.sl (.int .i64)) (.bor true false), .val (.int .i64) (.bor true false), .val (.bool) (.bor true false), .clo 17 []]) : Option (denL [(.int .i64, .bor false true)]) := hold_play__hold_first_f nf x.1 x.2.1 x.2.2.1 x.2.2.2.1
def hold_play__hold_first_C (nf : Nat) : Contract := ⟨[.val (.sl (.int .i64)) (.bor true false), .val (.int .i64) (.bor true false), .val (.bool) (.bor true false), .clo 17 []], [(.int .i64, .bor false true)], hold_play__hold_first_F nf, none⟩
theorem hold_play__hold_first_ok : FnOK Try.prog 16 := ⟨Try.f16, codeOf Try.f16, Try.func16, by kernel_rfl, by kernel_rfl⟩
theorem hold_play__hold_first_holds (nf : Nat) : Contract.Holds Try.prog 16 (hold_play__hold_first_C nf) :=
  fn_holds (Φ := hold_play__hold_first_phi nf) (keep := hold_play__hold_first_keep) (n := nf) ⟨tabs.1, tabs.2, (ctx_cons hold_first_ok (hold_first_holds nf) (ctx_cons slices_Index_ok (slices_Index_holds nf) (ctx_cons slices_Delete_ok (slices_Delete_holds nf) ctx_nil))), mixed⟩ (fn := Try.f16) ⟨Try.func16, by kernel_rfl, by kernel_rfl, by kernel_rfl⟩ (fun x => hold_play__hold_first_eq nf x.1 x.2.1 x.2.2.1 x.2.2.2.1)

/-! codemason hold.Lru -/
def hold_Lru_phi (nf : Nat) : Nat → Option Contract := lookC [(15, hold_wrong_C nf), (16, hold_play__hold_first_C nf)]
def hold_Lru_keep : Nat → List Nat := lookK []
def hold_Lru_p (nf : Nat)  (refs : List Int) (places : Int) : Option (Int × Int × Unit) :=
  Option.bind (hold_wrong_f nf refs places) fun r =>
  bif r.fst != 0 then
    some ((0, r.fst, ()))
  else
    Option.bind (hold_play__hold_first_f nf refs places true (())) fun r2 =>
    some ((r2.fst, 0, ()))
def hold_Lru_f (nf : Nat) (refs : List Int) (places : Int) : Option (Int × Int × Unit) := hold_Lru_p nf  refs places
theorem hold_Lru_eq (nf : Nat) (refs : List Int) (places : Int) : runF tab (hold_Lru_phi nf) hold_Lru_keep nf [PT.val (Ty.int IntKind.i64).sl (Md.bor true false), PT.val (Ty.int IntKind.i64) (Md.bor true false)] [(Ty.int IntKind.i64, Md.bor false true), (Ty.int IntKind.i64, Md.bor false true)] (resL (none) Try.f7) (codeOf Try.f7) ⟨refs, places, ()⟩ = hold_Lru_f nf refs places := by
  have h : runF tab (hold_Lru_phi nf) hold_Lru_keep nf [PT.val (Ty.int IntKind.i64).sl (Md.bor true false), PT.val (Ty.int IntKind.i64) (Md.bor true false)] [(Ty.int IntKind.i64, Md.bor false true), (Ty.int IntKind.i64, Md.bor false true)] (resL (none) Try.f7) (codeOf Try.f7) ⟨refs, places, ()⟩ = hold_Lru_p nf  refs places := by kernel_rfl
  exact h
def hold_Lru_F (nf : Nat) (x : denPs [.val (.sl (.int .i64)) (.bor true false), .val (.int .i64) (.bor true false)]) : Option (denL [(.int .i64, .bor false true), (.int .i64, .bor false true)]) := hold_Lru_f nf x.1 x.2.1
def hold_Lru_C (nf : Nat) : Contract := ⟨[.val (.sl (.int .i64)) (.bor true false), .val (.int .i64) (.bor true false)], [(.int .i64, .bor false true), (.int .i64, .bor false true)], hold_Lru_F nf, none⟩
theorem hold_Lru_ok : FnOK Try.prog 7 := ⟨Try.f7, codeOf Try.f7, Try.func7, by kernel_rfl, by kernel_rfl⟩
theorem hold_Lru_holds (nf : Nat) : Contract.Holds Try.prog 7 (hold_Lru_C nf) :=
  fn_holds (Φ := hold_Lru_phi nf) (keep := hold_Lru_keep) (n := nf) ⟨tabs.1, tabs.2, (ctx_cons hold_wrong_ok (hold_wrong_holds nf) (ctx_cons hold_play__hold_first_ok (hold_play__hold_first_holds nf) ctx_nil)), mixed⟩ (fn := Try.f7) ⟨Try.func7, by kernel_rfl, by kernel_rfl, by kernel_rfl⟩ (fun x => hold_Lru_eq nf x.1 x.2.1)

/-! codemason codemasonlaw.holdCode -/
def law_holdCode_phi (nf : Nat) : Nat → Option Contract := lookC []
def law_holdCode_keep : Nat → List Nat := lookK []
def law_holdCode_p (nf : Nat)  (refs : List Int) (places : Int) : Option (Int × Unit) :=
  bif decide ((↑refs.length : Int) > 20) then
    some ((1, ()))
  else
    bif decide (places < 1) then
      some ((1, ()))
    else
      bif decide (places > 8) then
        some ((1, ()))
      else
        some ((0, ()))
def law_holdCode_f (nf : Nat) (refs : List Int) (places : Int) : Option (Int × Unit) := law_holdCode_p nf  refs places
theorem law_holdCode_eq (nf : Nat) (refs : List Int) (places : Int) : runF tab (law_holdCode_phi nf) law_holdCode_keep nf [PT.val (Ty.int IntKind.i64).sl (Md.bor true false), PT.val (Ty.int IntKind.i64) (Md.bor true false)] [(Ty.int IntKind.i64, Md.bor false true)] (resL (none) Try.f8) (codeOf Try.f8) ⟨refs, places, ()⟩ = law_holdCode_f nf refs places := by
  have h : runF tab (law_holdCode_phi nf) law_holdCode_keep nf [PT.val (Ty.int IntKind.i64).sl (Md.bor true false), PT.val (Ty.int IntKind.i64) (Md.bor true false)] [(Ty.int IntKind.i64, Md.bor false true)] (resL (none) Try.f8) (codeOf Try.f8) ⟨refs, places, ()⟩ = law_holdCode_p nf  refs places := by kernel_rfl
  exact h
def law_holdCode_F (nf : Nat) (x : denPs [.val (.sl (.int .i64)) (.bor true false), .val (.int .i64) (.bor true false)]) : Option (denL [(.int .i64, .bor false true)]) := law_holdCode_f nf x.1 x.2.1
def law_holdCode_C (nf : Nat) : Contract := ⟨[.val (.sl (.int .i64)) (.bor true false), .val (.int .i64) (.bor true false)], [(.int .i64, .bor false true)], law_holdCode_F nf, none⟩
theorem law_holdCode_ok : FnOK Try.prog 8 := ⟨Try.f8, codeOf Try.f8, Try.func8, by kernel_rfl, by kernel_rfl⟩
theorem law_holdCode_holds (nf : Nat) : Contract.Holds Try.prog 8 (law_holdCode_C nf) :=
  fn_holds (Φ := law_holdCode_phi nf) (keep := law_holdCode_keep) (n := nf) ⟨tabs.1, tabs.2, ctx_nil, mixed⟩ (fn := Try.f8) ⟨Try.func8, by kernel_rfl, by kernel_rfl, by kernel_rfl⟩ (fun x => law_holdCode_eq nf x.1 x.2.1)

/-! codemason codemasonref.Hold -/
def ref_Hold_phi (nf : Nat) : Nat → Option Contract := lookC []
def ref_Hold_keep : Nat → List Nat := lookK [(4, [0, 1, 2, 7, 8, 9, 10, 11, 15, 17, 18, 19, 50, 51, 76, 80]), (2, [0, 1, 2, 7, 8, 9, 10, 11, 12, 17, 18, 19, 24, 25, 26, 76, 80]), (0, [0, 1, 2, 7, 8, 9, 17, 18, 19, 76, 80])]
def ref_Hold_b0 (nf : Nat) (l2 : List Int → Int → Bool → Int → Int → List Int → List Int → List Int → Int → Int → Option (Int × Unit)) (refs : List Int) (places : Int) (lru : Bool) (g0 : List Int → List Int → Int → Int → Option (Int × Unit)) (there : List Int) (when' : List Int) (miss : Int) (t19 : Int) : Option (Int × Unit) :=
  bif decide (t19 < (↑refs.length : Int)) then
    bif inb t19 refs.length then
      l2 refs places lru miss t19 there there when' (-1) 0
    else
      none
  else
    some ((miss, ()))
def ref_Hold_b2 (nf : Nat) (l4 : List Int → Int → Bool → Int → Int → List Int → List Int → List Int → Int → Int → Option (Int × Unit)) (refs : List Int) (places : Int) (lru : Bool) (miss : Int) (t19 : Int) (there : List Int) (g0 : List Int → List Int → Int → Int → Option (Int × Unit)) (g2 : List Int → List Int → Int → Int → Option (Int × Unit)) (there2 : List Int) (when'2 : List Int) (at' : Int) (t26 : Int) : Option (Int × Unit) :=
  bif decide (t26 < (↑there.length : Int)) then
    bif inb t26 there2.length then
      bif there2.getD t26.toNat 0 == refs.getD t19.toNat 0 then
        g2 there2 when'2 t26 (IntKind.i64.wrap (t26 + 1))
      else
        g2 there2 when'2 at' (IntKind.i64.wrap (t26 + 1))
    else
      none
  else
    bif decide (at' ≥ 0) then
      bif lru then
        bif inb at' when'2.length then
          g0 there2 (when'2.set at'.toNat t19) miss (IntKind.i64.wrap (t19 + 1))
        else
          none
      else
        g0 there2 when'2 miss (IntKind.i64.wrap (t19 + 1))
    else
      bif (↑there2.length : Int) == places then
        l4 refs places lru miss t19 there2 there2 when'2 0 0
      else
        bif bimp false ![refs.getD t19.toNat 0].isEmpty && (there2.length + [refs.getD t19.toNat 0].length).ble lim then
          bif bimp false ![t19].isEmpty && (when'2.length + [t19].length).ble lim then
            g0 (there2 ++ [refs.getD t19.toNat 0]) (when'2 ++ [t19]) (IntKind.i64.wrap (miss + 1)) (IntKind.i64.wrap (t19 + 1))
          else
            none
        else
          none
def ref_Hold_b4 (nf : Nat) (refs : List Int) (places : Int) (lru : Bool) (miss : Int) (t19 : Int) (there2 : List Int) (g0 : List Int → List Int → Int → Int → Option (Int × Unit)) (g4 : List Int → List Int → Int → Int → Option (Int × Unit)) (there3 : List Int) (when'3 : List Int) (first : Int) (t51 : Int) : Option (Int × Unit) :=
  bif decide (t51 < (↑there2.length : Int)) then
    bif inb t51 when'3.length then
      bif inb first when'3.length then
        bif decide (when'3.getD t51.toNat 0 < when'3.getD first.toNat 0) then
          g4 there3 when'3 t51 (IntKind.i64.wrap (t51 + 1))
        else
          g4 there3 when'3 first (IntKind.i64.wrap (t51 + 1))
      else
        none
    else
      none
  else
    bif inb first there3.length then
      bif inb first when'3.length then
        g0 (there3.set first.toNat (refs.getD t19.toNat 0)) (when'3.set first.toNat t19) (IntKind.i64.wrap (miss + 1)) (IntKind.i64.wrap (t19 + 1))
      else
        none
    else
      none
def ref_Hold_p (nf : Nat) (l0 : List Int → Int → Bool → List Int → List Int → Int → Int → Option (Int × Unit)) (refs : List Int) (places : Int) (lru : Bool) : Option (Int × Unit) :=
  l0 refs places lru [] [] 0 0
def ref_Hold_l4 (nf : Nat) (refs : List Int) (places : Int) (lru : Bool) (miss : Int) (t19 : Int) (there2 : List Int) (g0 : List Int → List Int → Int → Int → Option (Int × Unit)) : Nat → List Int → List Int → Int → Int → Option (Int × Unit)
  | 0, _, _, _, _ => none
  | fu + 1, there3, when'3, first, t51 => ref_Hold_b4 nf  refs places lru miss t19 there2 g0 (ref_Hold_l4 nf refs places lru miss t19 there2 g0 fu) there3 when'3 first t51
def ref_Hold_l2 (nf : Nat) (refs : List Int) (places : Int) (lru : Bool) (miss : Int) (t19 : Int) (there : List Int) (g0 : List Int → List Int → Int → Int → Option (Int × Unit)) : Nat → List Int → List Int → Int → Int → Option (Int × Unit)
  | 0, _, _, _, _ => none
  | fu + 1, there2, when'2, at', t26 => ref_Hold_b2 nf (fun _ _ _ _ _ p5 v0 v1 v2 v3 => ref_Hold_l4 nf refs places lru miss t19 p5 g0 nf v0 v1 v2 v3) refs places lru miss t19 there g0 (ref_Hold_l2 nf refs places lru miss t19 there g0 fu) there2 when'2 at' t26
def ref_Hold_l0 (nf : Nat) (refs : List Int) (places : Int) (lru : Bool) : Nat → List Int → List Int → Int → Int → Option (Int × Unit)
  | 0, _, _, _, _ => none
  | fu + 1, there, when', miss, t19 => ref_Hold_b0 nf (fun _ _ _ p3 p4 p5 v0 v1 v2 v3 => ref_Hold_l2 nf refs places lru p3 p4 p5 (fun there when' miss t19 => ref_Hold_l0 nf refs places lru  fu there when' miss t19) nf v0 v1 v2 v3) refs places lru  (ref_Hold_l0 nf refs places lru  fu) there when' miss t19
def ref_Hold_f (nf : Nat) (refs : List Int) (places : Int) (lru : Bool) : Option (Int × Unit) := ref_Hold_p nf (fun p0 p1 p2 v0 v1 v2 v3 => ref_Hold_l0 nf p0 p1 p2 nf v0 v1 v2 v3) refs places lru
noncomputable def ref_Hold_L0 (nf : Nat) : LC (Int × Unit) := theL (findL tab (ref_Hold_phi nf) (fun _ F => iter nf F) ref_Hold_keep 0 0 (codeOf Try.f9) (fin tab [(Ty.int IntKind.i64, Md.bor false true)] (resL (none) Try.f9)) (fun _ _ => none) (fin tab [(Ty.int IntKind.i64, Md.bor false true)] (resL (none) Try.f9)))
def ref_Hold_m0 (refs : List Int) (places : Int) (lru : Bool) (there : List Int) (when' : List Int) (miss : Int) (t19 : Int) : St := ⟨fresh, [(0, AV.v (Ty.int IntKind.i64).sl (Md.bor true false) refs), (1, AV.v (Ty.int IntKind.i64) (Md.bor false true) places), (2, AV.v Ty.bool (Md.bor false true) lru), (7, AV.ow 500007 (Ty.int IntKind.i64).sl (Md.own false (Md.bor false false)) there), (8, AV.ow 500008 (Ty.int IntKind.i64).sl (Md.own false (Md.bor false false)) when'), (9, AV.v (Ty.int IntKind.i64) (Md.bor false true) miss), (17, AV.v (Ty.int IntKind.i64).sl (Md.bor true false) refs), (18, AV.v (Ty.int IntKind.i64) (Md.bor false true) (↑refs.length : Int)), (19, AV.v (Ty.int IntKind.i64) (Md.bor false true) t19), (76, AV.dead), (80, AV.dead)]⟩
noncomputable def ref_Hold_L2 (nf : Nat) (G0 : St → Option (Int × Unit)) : LC (Int × Unit) := theL (findL tab (ref_Hold_phi nf) (fun _ F => iter nf F) ref_Hold_keep 2 0 (ref_Hold_L0 nf ).c (fun st => norm (ref_Hold_keep 0) st G0) (ref_Hold_L0 nf ).Kx (ref_Hold_L0 nf ).Kr)
def ref_Hold_m2 (refs : List Int) (places : Int) (lru : Bool) (miss : Int) (t19 : Int) (there : List Int) (there2 : List Int) (when'2 : List Int) (at' : Int) (t26 : Int) : St := ⟨fresh, [(0, AV.v (Ty.int IntKind.i64).sl (Md.bor true false) refs), (1, AV.v (Ty.int IntKind.i64) (Md.bor false true) places), (2, AV.v Ty.bool (Md.bor false true) lru), (7, AV.ow 500007 (Ty.int IntKind.i64).sl (Md.own false (Md.bor false false)) there2), (8, AV.ow 500008 (Ty.int IntKind.i64).sl (Md.own false (Md.bor false false)) when'2), (9, AV.v (Ty.int IntKind.i64) (Md.bor false true) miss), (10, AV.v (Ty.int IntKind.i64) (Md.bor false true) t19), (11, AV.v (Ty.int IntKind.i64) (Md.bor false true) (refs.getD t19.toNat 0)), (12, AV.v (Ty.int IntKind.i64) (Md.bor false true) at'), (17, AV.v (Ty.int IntKind.i64).sl (Md.bor true false) refs), (18, AV.v (Ty.int IntKind.i64) (Md.bor false true) (↑refs.length : Int)), (19, AV.v (Ty.int IntKind.i64) (Md.bor false true) t19), (24, AV.al 7 500007 []), (25, AV.v (Ty.int IntKind.i64) (Md.bor false true) (↑there.length : Int)), (26, AV.v (Ty.int IntKind.i64) (Md.bor false true) t26), (76, AV.dead), (80, AV.dead)]⟩
noncomputable def ref_Hold_L4 (nf : Nat) (G0 : St → Option (Int × Unit)) : LC (Int × Unit) := theL (findL tab (ref_Hold_phi nf) (fun _ F => iter nf F) ref_Hold_keep 4 0 (ref_Hold_L0 nf ).c (fun st => norm (ref_Hold_keep 0) st G0) (ref_Hold_L0 nf ).Kx (ref_Hold_L0 nf ).Kr)
def ref_Hold_m4 (refs : List Int) (places : Int) (lru : Bool) (miss : Int) (t19 : Int) (there2 : List Int) (there3 : List Int) (when'3 : List Int) (first : Int) (t51 : Int) : St := ⟨fresh, [(0, AV.v (Ty.int IntKind.i64).sl (Md.bor true false) refs), (1, AV.v (Ty.int IntKind.i64) (Md.bor false true) places), (2, AV.v Ty.bool (Md.bor false true) lru), (7, AV.ow 500007 (Ty.int IntKind.i64).sl (Md.own false (Md.bor false false)) there3), (8, AV.ow 500008 (Ty.int IntKind.i64).sl (Md.own false (Md.bor false false)) when'3), (9, AV.v (Ty.int IntKind.i64) (Md.bor false true) (IntKind.i64.wrap (miss + 1))), (10, AV.v (Ty.int IntKind.i64) (Md.bor false true) t19), (11, AV.v (Ty.int IntKind.i64) (Md.bor false true) (refs.getD t19.toNat 0)), (15, AV.v (Ty.int IntKind.i64) (Md.bor false true) first), (17, AV.v (Ty.int IntKind.i64).sl (Md.bor true false) refs), (18, AV.v (Ty.int IntKind.i64) (Md.bor false true) (↑refs.length : Int)), (19, AV.v (Ty.int IntKind.i64) (Md.bor false true) t19), (50, AV.v (Ty.int IntKind.i64) (Md.bor false true) (↑there2.length : Int)), (51, AV.v (Ty.int IntKind.i64) (Md.bor false true) t51), (76, AV.dead), (80, AV.dead)]⟩
theorem ref_Hold_h4 (nf : Nat) (G0 : St → Option (Int × Unit)) (refs : List Int) (places : Int) (lru : Bool) (miss : Int) (t19 : Int) (there2 : List Int) (fu : Nat) (there3 : List Int) (when'3 : List Int) (first : Int) (t51 : Int) : iter (fu + 1) (LC.F tab (ref_Hold_phi nf) (fun _ F => iter nf F) ref_Hold_keep 4 (ref_Hold_L4 nf G0)) (ref_Hold_m4 refs places lru miss t19 there2 there3 when'3 first t51) = ref_Hold_b4 nf  refs places lru miss t19 there2 (fun there when' miss t19 => G0 (ref_Hold_m0 refs places lru there when' miss t19)) (fun there3 when'3 first t51 => iter fu (LC.F tab (ref_Hold_phi nf) (fun _ F => iter nf F) ref_Hold_keep 4 (ref_Hold_L4 nf G0)) (ref_Hold_m4 refs places lru miss t19 there2 there3 when'3 first t51)) there3 when'3 first t51 := by kernel_rfl
theorem ref_Hold_e4 (nf : Nat) (G0 : St → Option (Int × Unit)) (refs : List Int) (places : Int) (lru : Bool) (miss : Int) (t19 : Int) (there2 : List Int) : ∀ (fu : Nat) (there3 : List Int) (when'3 : List Int) (first : Int) (t51 : Int), iter fu (LC.F tab (ref_Hold_phi nf) (fun _ F => iter nf F) ref_Hold_keep 4 (ref_Hold_L4 nf G0)) (ref_Hold_m4 refs places lru miss t19 there2 there3 when'3 first t51) = ref_Hold_l4 nf refs places lru miss t19 there2 (fun there when' miss t19 => G0 (ref_Hold_m0 refs places lru there when' miss t19)) fu there3 when'3 first t51 := by
  intro fu
  induction fu with
  | zero => intros; rfl
  | succ fu ih =>
    intro there3 when'3 first t51
    rw [ref_Hold_h4 nf G0 refs places lru miss t19 there2 fu there3 when'3 first t51]
    simp only [ih]
    rfl
theorem ref_Hold_h2 (nf : Nat) (G0 : St → Option (Int × Unit)) (refs : List Int) (places : Int) (lru : Bool) (miss : Int) (t19 : Int) (there : List Int) (fu : Nat) (there2 : List Int) (when'2 : List Int) (at' : Int) (t26 : Int) : iter (fu + 1) (LC.F tab (ref_Hold_phi nf) (fun _ F => iter nf F) ref_Hold_keep 2 (ref_Hold_L2 nf G0)) (ref_Hold_m2 refs places lru miss t19 there there2 when'2 at' t26) = ref_Hold_b2 nf (fun _ _ _ _ _ p5 v0 v1 v2 v3 => iter nf (LC.F tab (ref_Hold_phi nf) (fun _ F => iter nf F) ref_Hold_keep 4 (ref_Hold_L4 nf G0)) (ref_Hold_m4 refs places lru miss t19 p5 v0 v1 v2 v3)) refs places lru miss t19 there (fun there when' miss t19 => G0 (ref_Hold_m0 refs places lru there when' miss t19)) (fun there2 when'2 at' t26 => iter fu (LC.F tab (ref_Hold_phi nf) (fun _ F => iter nf F) ref_Hold_keep 2 (ref_Hold_L2 nf G0)) (ref_Hold_m2 refs places lru miss t19 there there2 when'2 at' t26)) there2 when'2 at' t26 := by kernel_rfl
theorem ref_Hold_e2 (nf : Nat) (G0 : St → Option (Int × Unit)) (refs : List Int) (places : Int) (lru : Bool) (miss : Int) (t19 : Int) (there : List Int) : ∀ (fu : Nat) (there2 : List Int) (when'2 : List Int) (at' : Int) (t26 : Int), iter fu (LC.F tab (ref_Hold_phi nf) (fun _ F => iter nf F) ref_Hold_keep 2 (ref_Hold_L2 nf G0)) (ref_Hold_m2 refs places lru miss t19 there there2 when'2 at' t26) = ref_Hold_l2 nf refs places lru miss t19 there (fun there when' miss t19 => G0 (ref_Hold_m0 refs places lru there when' miss t19)) fu there2 when'2 at' t26 := by
  intro fu
  induction fu with
  | zero => intros; rfl
  | succ fu ih =>
    intro there2 when'2 at' t26
    rw [ref_Hold_h2 nf G0 refs places lru miss t19 there fu there2 when'2 at' t26]
    simp only [ih, ref_Hold_e4]
    rfl
theorem ref_Hold_h0 (nf : Nat)  (refs : List Int) (places : Int) (lru : Bool) (fu : Nat) (there : List Int) (when' : List Int) (miss : Int) (t19 : Int) : iter (fu + 1) (LC.F tab (ref_Hold_phi nf) (fun _ F => iter nf F) ref_Hold_keep 0 (ref_Hold_L0 nf )) (ref_Hold_m0 refs places lru there when' miss t19) = ref_Hold_b0 nf (fun _ _ _ p3 p4 p5 v0 v1 v2 v3 => iter nf (LC.F tab (ref_Hold_phi nf) (fun _ F => iter nf F) ref_Hold_keep 2 (ref_Hold_L2 nf (iter fu (LC.F tab (ref_Hold_phi nf) (fun _ F => iter nf F) ref_Hold_keep 0 (ref_Hold_L0 nf ))))) (ref_Hold_m2 refs places lru p3 p4 p5 v0 v1 v2 v3)) refs places lru  (fun there when' miss t19 => iter fu (LC.F tab (ref_Hold_phi nf) (fun _ F => iter nf F) ref_Hold_keep 0 (ref_Hold_L0 nf )) (ref_Hold_m0 refs places lru there when' miss t19)) there when' miss t19 := by kernel_rfl
theorem ref_Hold_e0 (nf : Nat)  (refs : List Int) (places : Int) (lru : Bool) : ∀ (fu : Nat) (there : List Int) (when' : List Int) (miss : Int) (t19 : Int), iter fu (LC.F tab (ref_Hold_phi nf) (fun _ F => iter nf F) ref_Hold_keep 0 (ref_Hold_L0 nf )) (ref_Hold_m0 refs places lru there when' miss t19) = ref_Hold_l0 nf refs places lru  fu there when' miss t19 := by
  intro fu
  induction fu with
  | zero => intros; rfl
  | succ fu ih =>
    intro there when' miss t19
    rw [ref_Hold_h0 nf  refs places lru fu there when' miss t19]
    simp only [ih, ref_Hold_e2]
    rfl
theorem ref_Hold_eq (nf : Nat) (refs : List Int) (places : Int) (lru : Bool) : runF tab (ref_Hold_phi nf) ref_Hold_keep nf [PT.val (Ty.int IntKind.i64).sl (Md.bor true false), PT.val (Ty.int IntKind.i64) (Md.bor true false), PT.val Ty.bool (Md.bor true false)] [(Ty.int IntKind.i64, Md.bor false true)] (resL (none) Try.f9) (codeOf Try.f9) ⟨refs, places, lru, ()⟩ = ref_Hold_f nf refs places lru := by
  have h : runF tab (ref_Hold_phi nf) ref_Hold_keep nf [PT.val (Ty.int IntKind.i64).sl (Md.bor true false), PT.val (Ty.int IntKind.i64) (Md.bor true false), PT.val Ty.bool (Md.bor true false)] [(Ty.int IntKind.i64, Md.bor false true)] (resL (none) Try.f9) (codeOf Try.f9) ⟨refs, places, lru, ()⟩ = ref_Hold_p nf (fun p0 p1 p2 v0 v1 v2 v3 => iter nf (LC.F tab (ref_Hold_phi nf) (fun _ F => iter nf F) ref_Hold_keep 0 (ref_Hold_L0 nf)) (ref_Hold_m0 p0 p1 p2 v0 v1 v2 v3)) refs places lru := by kernel_rfl
  rw [h]
  simp only [ref_Hold_e0]
  rfl
def ref_Hold_F (nf : Nat) (x : denPs [.val (.sl (.int .i64)) (.bor true false), .val (.int .i64) (.bor true false), .val (.bool) (.bor true false)]) : Option (denL [(.int .i64, .bor false true)]) := ref_Hold_f nf x.1 x.2.1 x.2.2.1
def ref_Hold_C (nf : Nat) : Contract := ⟨[.val (.sl (.int .i64)) (.bor true false), .val (.int .i64) (.bor true false), .val (.bool) (.bor true false)], [(.int .i64, .bor false true)], ref_Hold_F nf, none⟩
theorem ref_Hold_ok : FnOK Try.prog 9 := ⟨Try.f9, codeOf Try.f9, Try.func9, by kernel_rfl, by kernel_rfl⟩
theorem ref_Hold_holds (nf : Nat) : Contract.Holds Try.prog 9 (ref_Hold_C nf) :=
  fn_holds (Φ := ref_Hold_phi nf) (keep := ref_Hold_keep) (n := nf) ⟨tabs.1, tabs.2, ctx_nil, mixed⟩ (fn := Try.f9) ⟨Try.func9, by kernel_rfl, by kernel_rfl, by kernel_rfl⟩ (fun x => ref_Hold_eq nf x.1 x.2.1 x.2.2.1)

/-! codemason codemasonlaw.HoldLrus -/
def law_HoldLrus_phi (nf : Nat) : Nat → Option Contract := lookC [(7, hold_Lru_C nf), (8, law_holdCode_C nf), (9, ref_Hold_C nf)]
def law_HoldLrus_keep : Nat → List Nat := lookK []
def law_HoldLrus_p (nf : Nat)  (refs : List Int) (places : Int) : Option (Bool × Unit) :=
  Option.bind (hold_Lru_f nf refs places) fun r =>
  Option.bind (law_holdCode_f nf refs places) fun r2 =>
  bif r2.fst != 0 then
    bif r.snd.fst == r2.fst then
      some ((r.fst == 0, ()))
    else
      some ((false, ()))
  else
    bif r.snd.fst == 0 then
      Option.bind (ref_Hold_f nf refs places true) fun r3 =>
      some ((r.fst == r3.fst, ()))
    else
      some ((false, ()))
def law_HoldLrus_f (nf : Nat) (refs : List Int) (places : Int) : Option (Bool × Unit) := law_HoldLrus_p nf  refs places
theorem law_HoldLrus_eq (nf : Nat) (refs : List Int) (places : Int) : runF tab (law_HoldLrus_phi nf) law_HoldLrus_keep nf [PT.val (Ty.int IntKind.i64).sl (Md.bor true false), PT.val (Ty.int IntKind.i64) (Md.bor true false)] [(Ty.bool, Md.bor false true)] (resL (none) Try.f3) (codeOf Try.f3) ⟨refs, places, ()⟩ = law_HoldLrus_f nf refs places := by
  have h : runF tab (law_HoldLrus_phi nf) law_HoldLrus_keep nf [PT.val (Ty.int IntKind.i64).sl (Md.bor true false), PT.val (Ty.int IntKind.i64) (Md.bor true false)] [(Ty.bool, Md.bor false true)] (resL (none) Try.f3) (codeOf Try.f3) ⟨refs, places, ()⟩ = law_HoldLrus_p nf  refs places := by kernel_rfl
  exact h
def law_HoldLrus_F (nf : Nat) (x : denPs [.val (.sl (.int .i64)) (.bor true false), .val (.int .i64) (.bor true false)]) : Option (denL [(.bool, .bor false true)]) := law_HoldLrus_f nf x.1 x.2.1
def law_HoldLrus_C (nf : Nat) : Contract := ⟨[.val (.sl (.int .i64)) (.bor true false), .val (.int .i64) (.bor true false)], [(.bool, .bor false true)], law_HoldLrus_F nf, none⟩
theorem law_HoldLrus_ok : FnOK Try.prog 3 := ⟨Try.f3, codeOf Try.f3, Try.func3, by kernel_rfl, by kernel_rfl⟩
theorem law_HoldLrus_holds (nf : Nat) : Contract.Holds Try.prog 3 (law_HoldLrus_C nf) :=
  fn_holds (Φ := law_HoldLrus_phi nf) (keep := law_HoldLrus_keep) (n := nf) ⟨tabs.1, tabs.2, (ctx_cons hold_Lru_ok (hold_Lru_holds nf) (ctx_cons law_holdCode_ok (law_holdCode_holds nf) (ctx_cons ref_Hold_ok (ref_Hold_holds nf) ctx_nil))), mixed⟩ (fn := Try.f3) ⟨Try.func3, by kernel_rfl, by kernel_rfl, by kernel_rfl⟩ (fun x => law_HoldLrus_eq nf x.1 x.2.1)

/-! codemason hold.Fifo -/
def hold_Fifo_phi (nf : Nat) : Nat → Option Contract := lookC [(15, hold_wrong_C nf), (16, hold_play__hold_first_C nf)]
def hold_Fifo_keep : Nat → List Nat := lookK []
def hold_Fifo_p (nf : Nat)  (refs : List Int) (places : Int) : Option (Int × Int × Unit) :=
  Option.bind (hold_wrong_f nf refs places) fun r =>
  bif r.fst != 0 then
    some ((0, r.fst, ()))
  else
    Option.bind (hold_play__hold_first_f nf refs places false (())) fun r2 =>
    some ((r2.fst, 0, ()))
def hold_Fifo_f (nf : Nat) (refs : List Int) (places : Int) : Option (Int × Int × Unit) := hold_Fifo_p nf  refs places
theorem hold_Fifo_eq (nf : Nat) (refs : List Int) (places : Int) : runF tab (hold_Fifo_phi nf) hold_Fifo_keep nf [PT.val (Ty.int IntKind.i64).sl (Md.bor true false), PT.val (Ty.int IntKind.i64) (Md.bor true false)] [(Ty.int IntKind.i64, Md.bor false true), (Ty.int IntKind.i64, Md.bor false true)] (resL (none) Try.f10) (codeOf Try.f10) ⟨refs, places, ()⟩ = hold_Fifo_f nf refs places := by
  have h : runF tab (hold_Fifo_phi nf) hold_Fifo_keep nf [PT.val (Ty.int IntKind.i64).sl (Md.bor true false), PT.val (Ty.int IntKind.i64) (Md.bor true false)] [(Ty.int IntKind.i64, Md.bor false true), (Ty.int IntKind.i64, Md.bor false true)] (resL (none) Try.f10) (codeOf Try.f10) ⟨refs, places, ()⟩ = hold_Fifo_p nf  refs places := by kernel_rfl
  exact h
def hold_Fifo_F (nf : Nat) (x : denPs [.val (.sl (.int .i64)) (.bor true false), .val (.int .i64) (.bor true false)]) : Option (denL [(.int .i64, .bor false true), (.int .i64, .bor false true)]) := hold_Fifo_f nf x.1 x.2.1
def hold_Fifo_C (nf : Nat) : Contract := ⟨[.val (.sl (.int .i64)) (.bor true false), .val (.int .i64) (.bor true false)], [(.int .i64, .bor false true), (.int .i64, .bor false true)], hold_Fifo_F nf, none⟩
theorem hold_Fifo_ok : FnOK Try.prog 10 := ⟨Try.f10, codeOf Try.f10, Try.func10, by kernel_rfl, by kernel_rfl⟩
theorem hold_Fifo_holds (nf : Nat) : Contract.Holds Try.prog 10 (hold_Fifo_C nf) :=
  fn_holds (Φ := hold_Fifo_phi nf) (keep := hold_Fifo_keep) (n := nf) ⟨tabs.1, tabs.2, (ctx_cons hold_wrong_ok (hold_wrong_holds nf) (ctx_cons hold_play__hold_first_ok (hold_play__hold_first_holds nf) ctx_nil)), mixed⟩ (fn := Try.f10) ⟨Try.func10, by kernel_rfl, by kernel_rfl, by kernel_rfl⟩ (fun x => hold_Fifo_eq nf x.1 x.2.1)

/-! codemason codemasonlaw.HoldFifos -/
def law_HoldFifos_phi (nf : Nat) : Nat → Option Contract := lookC [(8, law_holdCode_C nf), (9, ref_Hold_C nf), (10, hold_Fifo_C nf)]
def law_HoldFifos_keep : Nat → List Nat := lookK []
def law_HoldFifos_p (nf : Nat)  (refs : List Int) (places : Int) : Option (Bool × Unit) :=
  Option.bind (hold_Fifo_f nf refs places) fun r =>
  Option.bind (law_holdCode_f nf refs places) fun r2 =>
  bif r2.fst != 0 then
    bif r.snd.fst == r2.fst then
      some ((r.fst == 0, ()))
    else
      some ((false, ()))
  else
    bif r.snd.fst == 0 then
      Option.bind (ref_Hold_f nf refs places false) fun r3 =>
      some ((r.fst == r3.fst, ()))
    else
      some ((false, ()))
def law_HoldFifos_f (nf : Nat) (refs : List Int) (places : Int) : Option (Bool × Unit) := law_HoldFifos_p nf  refs places
theorem law_HoldFifos_eq (nf : Nat) (refs : List Int) (places : Int) : runF tab (law_HoldFifos_phi nf) law_HoldFifos_keep nf [PT.val (Ty.int IntKind.i64).sl (Md.bor true false), PT.val (Ty.int IntKind.i64) (Md.bor true false)] [(Ty.bool, Md.bor false true)] (resL (none) Try.f4) (codeOf Try.f4) ⟨refs, places, ()⟩ = law_HoldFifos_f nf refs places := by
  have h : runF tab (law_HoldFifos_phi nf) law_HoldFifos_keep nf [PT.val (Ty.int IntKind.i64).sl (Md.bor true false), PT.val (Ty.int IntKind.i64) (Md.bor true false)] [(Ty.bool, Md.bor false true)] (resL (none) Try.f4) (codeOf Try.f4) ⟨refs, places, ()⟩ = law_HoldFifos_p nf  refs places := by kernel_rfl
  exact h
def law_HoldFifos_F (nf : Nat) (x : denPs [.val (.sl (.int .i64)) (.bor true false), .val (.int .i64) (.bor true false)]) : Option (denL [(.bool, .bor false true)]) := law_HoldFifos_f nf x.1 x.2.1
def law_HoldFifos_C (nf : Nat) : Contract := ⟨[.val (.sl (.int .i64)) (.bor true false), .val (.int .i64) (.bor true false)], [(.bool, .bor false true)], law_HoldFifos_F nf, none⟩
theorem law_HoldFifos_ok : FnOK Try.prog 4 := ⟨Try.f4, codeOf Try.f4, Try.func4, by kernel_rfl, by kernel_rfl⟩
theorem law_HoldFifos_holds (nf : Nat) : Contract.Holds Try.prog 4 (law_HoldFifos_C nf) :=
  fn_holds (Φ := law_HoldFifos_phi nf) (keep := law_HoldFifos_keep) (n := nf) ⟨tabs.1, tabs.2, (ctx_cons law_holdCode_ok (law_holdCode_holds nf) (ctx_cons ref_Hold_ok (ref_Hold_holds nf) (ctx_cons hold_Fifo_ok (hold_Fifo_holds nf) ctx_nil))), mixed⟩ (fn := Try.f4) ⟨Try.func4, by kernel_rfl, by kernel_rfl, by kernel_rfl⟩ (fun x => law_HoldFifos_eq nf x.1 x.2.1)
end
end Go.Proofs.Ytbmjodcgjhgpeaa.S
