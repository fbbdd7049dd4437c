/- A law's row out of its contract: whatever the arguments, the answer is true and the arguments read as before. -/
import Derived.Test.YtmndifhjmbiodaaAbTop
import Derived.Test.YtmndifhjmbiodaaAbCheck
namespace Go.Ab
open Go.ChangeShapes Go.WideShapes Go.RowKit Go.Deep

section
variable {H : Type} {enc : TypeId × Value → H} {P : Program}

theorem trodAll_len {w : World} {base : Nat} {sp : Nat → Bool} {held : Bool} : ∀ (ts : List TypeId) (vs : List Value) (ds : List (DataW H)) (ps : List MemPlace), DataW.TrodAll enc P w base sp held ts vs ds ps → ds.length = ts.length
  | [], [], [], _, _ => rfl
  | [], _ :: _, _, _, h => h.elim
  | [], [], _ :: _, _, h => h.elim
  | _ :: _, [], _, _, h => h.elim
  | _ :: _, _ :: _, [], _, h => h.elim
  | _ :: ts, _ :: vs, _ :: ds, _, h => by
    obtain ⟨p, q, _, h2, _⟩ := h
    simp [trodAll_len ts vs ds q h2]

theorem TMs_len : ∀ (tys : List Ty) (ts : List TypeId), TMs P tys ts → ts.length = tys.length
  | [], [], _ => rfl
  | [], _ :: _, h => h.elim
  | _ :: _, [], h => h.elim
  | _ :: r, _ :: l, h => by simp [TMs_len r l h.2.2.2]

/-- the parameters' types, looked up in the table -/
def tmsB (P : Program) (T : Tab) : List Ty → List TypeId → Bool
  | [], [] => true
  | ty :: r, t :: l => decide (T.ty t = some ty) && argT ty && P.readableRec t && decide (t < P.types.size) && tmsB P T r l
  | _, _ => false
theorem tms_ok {T : Tab} (hT : TabOK P T) : ∀ (tys : List Ty) (ts : List TypeId), tmsB P T tys ts = true → TMs P tys ts
  | [], [], _ => trivial
  | [], _ :: _, h => by cases h
  | _ :: _, [], h => by cases h
  | ty :: r, t :: l, h => by
    simp only [tmsB, Bool.and_eq_true, decide_eq_true_eq] at h
    exact ⟨⟨((hT t).1 ty h.1.1.1.1).1, h.1.1.1.2⟩, h.1.1.2, h.1.2, tms_ok hT r l h.2⟩

theorem law_post {f : Func} {n : FuncId} {s : ChangeSpec} {apart fresh handsOn again : Bool} {tys : List Ty} {ts : List TypeId} {tb : TypeId}
    (hl : laidOutB P = true) (hp : f.params.toList = ts) (hT : TMs P tys ts) (hlen : tys.length ≤ 1000) (hrt : f.resultTypes = #[tb]) (hb : P.underlying tb = some .bool) (hvars : s.vars = [])
    (hfn : ∀ ds : List (DataW H), ds.length = tys.length → s.fn H ds = { results := [.lit (.bool true)], args := ds })
    {F : Nat → denPs (lawPs tys) → Option (denL lawRs)} (hH : ∀ k, Contract.Holds P n ⟨lawPs tys, lawRs, F k, []⟩) (hlaw : ∀ x, wfPs tys x → ∃ k, F k x = some (true, ()))
    {W : World} {base : Nat} {args : Array Value} {ds gs : List (DataW H)} {before : List MemPlace}
    (hval : ∀ (j : Nat) t v, f.params[j]? = some t → args[j]? = some v → Value.okWide P W .any base t v)
    (hW : DataW.Whole enc P f.params.toList s.vars apart W args.toList ds gs before) :
    Calls P n args W fun e W' => ∃ v, e = .returned v ∧ s.post enc P f apart fresh handsOn again W args v W' := by
  have hW' := hW
  obtain ⟨p, q, hA, hV, rfl, hfz, hnd⟩ := hW
  have hWt := hW'.lt
  rw [hvars] at hV
  obtain ⟨rfl, rfl⟩ := trodVars_none hV
  rw [hp] at hA
  have hdl : ds.length = tys.length := by rw [trodAll_len ts _ ds p hA, TMs_len tys ts hT]
  have hs : s.fn H (ds ++ []) = { results := [.lit (.bool true)], args := ds } := by rw [List.append_nil]; exact hfn ds hdl
  refine (law_calls hT hlen hA (fun j t v h1 h2 => ⟨_, _, hval j t v (by rw [← Array.getElem?_toList, hp]; exact h1) h2⟩) hH hlaw).mono fun e W' ⟨he, hbel⟩ => ⟨_, he, ?_⟩
  refine post_below (pa := p) (pv := []) hW' (fun b sp hd => ?_) (fun sp hsp => ?_) (fun sp _ => ?_) rfl hbel (ok_one hrt rfl (okWide_bool_mk hb true))
  · rw [hs, hrt]; exact trodAll_mk1 (shut_bool hb true)
  · rw [hs, hp]
    exact trodAll_stays hl tys ts _ ds p hT hA (fun x hx => hbel.same (hWt x (by simpa using hx))) (fun x hx => hsp x (by simpa using hx))
  · rw [hs, hvars]; exact rfl
end
end Go.Ab
