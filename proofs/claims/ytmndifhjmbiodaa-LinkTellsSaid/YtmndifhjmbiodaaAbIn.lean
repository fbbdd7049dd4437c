/- The walk of regions in a round of a range over a function, and with calls that are put off. -/
import Derived.Test.YtmndifhjmbiodaaAbStep
import Derived.RangeFuncSeq
import Derived.RangeFuncBound
import Derived.LoopNIn
namespace Go.Ab

/-- all functions, whatever depth; in a round or not -/
def fen (ro : Option Nat) : Fence := { Fence.wide with round := ro }

theorem callsIn_fen {ro : Option Nat} {n : Nat} {P : Program} {f : FuncId} {args : Array Value} {w : World} {R : Ending → World → Prop} (h : Calls P f args w R) : CallsIn (fen ro) n P f args w R :=
  (callsIn_wide (n := n)).2 h
theorem calls_fen {n : Nat} {P : Program} {f : FuncId} {args : Array Value} {w : World} {R : Ending → World → Prop} (h : CallsIn (fen none) n P f args w R) : Calls P f args w R :=
  (callsIn_wide (n := n)).1 h
theorem room_fen (ro : Option Nat) (n : Nat) : (fen ro).room n := fun _ h => by simp [fen, Fence.wide] at h
theorem stepsIn_fen {ro : Option Nat} {P : Program} {m m' : Machine} (h : Steps P m m') : StepsIn (Machine.fenced P (fen ro)) P m m' := (stepsIn_wide (P := P)).2 h
theorem rowsIn_fen {ro : Option Nat} {n : Nat} {P : Program} {row : String} {args : Array Value} {w : World} {R : Value → World → Prop} (h : Rows P row args w R) : RowsIn (fen ro) n P row args w R :=
  fun c cs _ => let ⟨v, w', r, s⟩ := h c cs; ⟨v, w', r, stepsIn_fen s⟩

/-- an activation with other calls put off -/
def Act.wd (df : List Deferred) (a : Act) : Act := { a with defers := a.defers ++ df }
theorem Act.wd_put (df : List Deferred) (a : Act) (d : Option Tmp) (v : Value) : (Act.wd df a).put d v = Act.wd df (a.put d v) := by cases d <;> rfl
theorem Act.wd_eval (df : List Deferred) (a : Act) : (Act.wd df a).eval = a.eval := rfl

def notDefer (o : Oper) : Bool := match o.op with | .defer _ => false | _ => true
theorem notDefer_ne {o : Oper} (h : notDefer o = true) : ∀ c, o.op ≠ .defer c := by
  intro c hc; rw [notDefer, hc] at h; cases h

section
variable {P : Program} {n : Nat} {df : List Deferred}

theorem letsOut_not {Q : Exit → Act → World → Prop} (h : ∀ a w, ¬ Q .outgrown a w) : ¬ LetsOut Q := fun ⟨a, w, hq⟩ => h a w hq

theorem oper_in {ro : Option Nat} {o : Oper} (hnd : notDefer o = true) {a : Act} {w : World} {next next' : Act → World → Prop} {Q Q' : Exit → Act → World → Prop} (hQ : ∀ a w, ¬ Q .outgrown a w)
    (hn : ∀ a w, next a w → next' (Act.wd df a) w) (hQQ : ∀ e a w, Q e a w → Q' e (Act.wd df a) w)
    (h : o.wp P a w next Q) : o.wpIn (fen ro) n P (Act.wd df a) w next' Q' := by
  refine ⟨fun _ _ => trivial, ?_⟩
  rw [Oper.semAt_eq _ _ _ (notDefer_ne hnd), Act.wd_eval]
  unfold Oper.wp at h
  have hdep : (fen ro).depth.isSome = true → 1 ≤ n := fun h => by simp [fen, Fence.wide] at h
  cases hr : (execOp a.eval o).run P w with
  | ok nx w' =>
    rw [hr] at h
    cases nx with
    | value v => rw [Oper.uponIn_value, Act.wd_put]; exact hn _ _ h
    | skip => rw [Oper.uponIn_skip, Act.wd_put]; exact hn _ _ h
    | defer d =>
      rw [Oper.uponIn_defer]
      rw [Oper.upon_defer] at h
      exact (show ({ Act.wd df a with defers := d :: (Act.wd df a).defers } : Act).put o.dst undef = Act.wd df (({ a with defers := d :: a.defers } : Act).put o.dst undef) by cases o.dst <;> rfl) ▸ hn _ _ h
    | enter f args =>
      rw [Oper.uponIn_enter]
      rw [Oper.upon_enter] at h
      refine ⟨hdep, callsIn_fen (h.mono fun e w'' he => ?_)⟩
      cases e with
      | returned v => show next' ((Act.wd df a).put o.dst v) w''; rw [Act.wd_put]; exact hn _ _ he
      | panicked ch => exact hQQ _ _ _ he
      | outgrown => exact absurd he (letsOut_not hQ)
    | row row args =>
      rw [Oper.uponIn_row]
      exact ⟨hdep, rowsIn_fen (Rows.mono h fun v w'' he => by rw [Act.wd_put]; exact hn _ _ he)⟩
    | _ => exact h.elim
  | halt x w' =>
    rw [hr] at h
    cases x <;> first | exact h.elim | exact hQQ _ _ _ h

theorem ops_in {ro : Option Nat} {ops : Array Oper} {Q Q' : Exit → Act → World → Prop} (hQ : ∀ a w, ¬ Q .outgrown a w) (hQQ : ∀ e a w, Q e a w → Q' e (Act.wd df a) w) (hnd : ∀ o ∈ ops.toList, notDefer o = true) :
    ∀ (l : List Nat) (a : Act) (w : World), wpOps P ops Q l a w → wpOpsIn (fen ro) n P ops Q' l (Act.wd df a) w
  | [], a, w, h => hQQ _ _ _ h
  | i :: rest, a, w, h => by
    have ih := fun a w h => ops_in (ro := ro) hQ hQQ hnd rest a w h
    simp only [wpOps] at h
    simp only [wpOpsIn]
    cases ho : ops[i]? with
    | none => rw [ho] at h; exact ih a w h
    | some o =>
      rw [ho] at h
      simp only at h ⊢
      have ho' : o ∈ ops.toList := by
        obtain ⟨hi, h2⟩ := Array.getElem?_eq_some_iff.1 ho
        rw [← h2]; simp
      show if Region.wanted o (yielded ops a.tmps) = true then _ else _
      split at h
      · rename_i hw
        rw [if_pos hw]
        rcases h with h | h
        · exact oper_in (hnd o ho') hQ ih hQQ h
        · exact absurd h.2 (letsOut_not hQ)
      · rename_i hw
        rw [if_neg hw, Act.wd_put]
        exact ⟨fun _ _ => trivial, ih _ _ h⟩

theorem region_in {ro : Option Nat} {id : Nat} {ops : Array Oper} {Q Q' : Exit → Act → World → Prop} {a : Act} {w : World} (hQ : ∀ a w, ¬ Q .outgrown a w) (hQQ : ∀ e a w, Q e a w → Q' e (Act.wd df a) w) (hnd : ∀ o ∈ ops.toList, notDefer o = true)
    (h : wpList P ops Q ops.toList a w) : (Code.region id ops false).wpIn (fen ro) n P Q' (Act.wd df a) w := by
  refine wpIn_region (ops_in hQ hQQ hnd _ a w ?_)
  rw [List.range_eq_range', ← Array.length_toList, wpOps_eq_wpList ops.toList 0 (by simp)]
  exact h
theorem region_draw_in {ro : Option Nat} {id : Nat} {ops : Array Oper} {Q Q' : Exit → Act → World → Prop} {a : Act} {w : World} (hQ : ∀ a w, ¬ Q .outgrown a w) (hQQ : ∀ e a w, Q e a w → Q' e (Act.wd df a) w) (hnd : ∀ o ∈ ops.toList, notDefer o = true)
    (h : ∀ t, wpOps P ops Q (Region.schedule (P.follows .mixedOrders) ops t) a { w with drawn := w.drawn + 1 }) : (Code.region id ops true).wpIn (fen ro) n P Q' (Act.wd df a) w :=
  wpIn_region_draw fun t => ops_in hQ hQQ hnd _ a _ (h t)
end
end Go.Ab
