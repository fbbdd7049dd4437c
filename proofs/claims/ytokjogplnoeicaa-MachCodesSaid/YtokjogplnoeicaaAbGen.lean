/- The walk of regions in a round of a range over a function, and with calls that are put off. -/
import Derived.Test.YtokjogplnoeicaaAbStep
import Derived.RangeFuncSeq
import Derived.RangeFuncBound
import Derived.LoopNIn
import Derived.Test.YtokjogplnoeicaaAbCall0
import Derived.IntWalk
namespace Go.Ab

/-- all functions, whatever depth; in a round or not -/
def fen (ro : Option Nat) : Fence := { Fence.wide with round := ro }

theorem callsIn_fen {ro : Option Nat} {n : Nat} {P : Program} {f : FuncId} {args : Array Value} {w : World} {R : Ending → World → Prop} (h : Calls P f args w R) : CallsIn (fen ro) n P f args w R :=
  (callsIn_wide (n := n)).2 h
theorem calls_fen {n : Nat} {P : Program} {f : FuncId} {args : Array Value} {w : World} {R : Ending → World → Prop} (h : CallsIn (fen none) n P f args w R) : Calls P f args w R :=
  (callsIn_wide (n := n)).1 h
theorem room_fen (ro : Option Nat) (n : Nat) : (fen ro).room n := fun _ h => by simp [fen, Fence.wide] at h
theorem stepsIn_fen {ro : Option Nat} {P : Program} {m m' : Machine} (h : Steps P m m') : StepsIn (Machine.fenced P (fen ro)) P m m' := (stepsIn_wide (P := P)).2 h
theorem rowsIn_fen {ro : Option Nat} {n : Nat} {P : Program} {row : String} {args : Array Value} {w : World} {R : Value → World → Prop} (h : Rows P row args w R) : RowsIn (fen ro) n P row args w R :=
  fun c cs _ => let ⟨v, w', r, s⟩ := h c cs; ⟨v, w', r, stepsIn_fen s⟩

/-- an activation with other calls put off -/
def Act.wd (df : List Deferred) (a : Act) : Act := { a with defers := a.defers ++ df }
theorem Act.wd_put (df : List Deferred) (a : Act) (d : Option Tmp) (v : Value) : (Act.wd df a).put d v = Act.wd df (a.put d v) := by cases d <;> rfl
theorem Act.wd_eval (df : List Deferred) (a : Act) : (Act.wd df a).eval = a.eval := rfl

def notDefer (o : Oper) : Bool := match o.op with | .defer _ => false | _ => true
theorem notDefer_ne {o : Oper} (h : notDefer o = true) : ∀ c, o.op ≠ .defer c := by
  intro c hc; rw [notDefer, hc] at h; cases h

section
variable {P : Program} {n : Nat} {df : List Deferred}

theorem letsOut_not {Q : Exit → Act → World → Prop} (h : ∀ a w, ¬ Q .outgrown a w) : ¬ LetsOut Q := fun ⟨a, w, hq⟩ => h a w hq

theorem oper_in {ro : Option Nat} {o : Oper} (hnd : notDefer o = true) {a : Act} {w : World} {next next' : Act → World → Prop} {Q Q' : Exit → Act → World → Prop} (hQ : ∀ a w, ¬ Q .outgrown a w)
    (hn : ∀ a w, next a w → next' (Act.wd df a) w) (hQQ : ∀ e a w, Q e a w → Q' e (Act.wd df a) w)
    (h : o.wp P a w next Q) : o.wpIn (fen ro) n P (Act.wd df a) w next' Q' := by
  refine ⟨fun _ _ => trivial, ?_⟩
  rw [Oper.semAt_eq _ _ _ (notDefer_ne hnd), Act.wd_eval]
  unfold Oper.wp at h
  have hdep : (fen ro).depth.isSome = true → 1 ≤ n := fun h => by simp [fen, Fence.wide] at h
  cases hr : (execOp a.eval o).run P w with
  | ok nx w' =>
    rw [hr] at h
    cases nx with
    | value v => rw [Oper.uponIn_value, Act.wd_put]; exact hn _ _ h
    | skip => rw [Oper.uponIn_skip, Act.wd_put]; exact hn _ _ h
    | defer d =>
      rw [Oper.uponIn_defer]
      rw [Oper.upon_defer] at h
      exact (show ({ Act.wd df a with defers := d :: (Act.wd df a).defers } : Act).put o.dst undef = Act.wd df (({ a with defers := d :: a.defers } : Act).put o.dst undef) by cases o.dst <;> rfl) ▸ hn _ _ h
    | enter f args =>
      rw [Oper.uponIn_enter]
      rw [Oper.upon_enter] at h
      refine ⟨hdep, callsIn_fen (h.mono fun e w'' he => ?_)⟩
      cases e with
      | returned v => show next' ((Act.wd df a).put o.dst v) w''; rw [Act.wd_put]; exact hn _ _ he
      | panicked ch => exact hQQ _ _ _ he
      | outgrown => exact absurd he (letsOut_not hQ)
    | row row args =>
      rw [Oper.uponIn_row]
      exact ⟨hdep, rowsIn_fen (Rows.mono h fun v w'' he => by rw [Act.wd_put]; exact hn _ _ he)⟩
    | _ => exact h.elim
  | halt x w' =>
    rw [hr] at h
    cases x <;> first | exact h.elim | exact hQQ _ _ _ h

theorem ops_in {ro : Option Nat} {ops : Array Oper} {Q Q' : Exit → Act → World → Prop} (hQ : ∀ a w, ¬ Q .outgrown a w) (hQQ : ∀ e a w, Q e a w → Q' e (Act.wd df a) w) (hnd : ∀ o ∈ ops.toList, notDefer o = true) :
    ∀ (l : List Nat) (a : Act) (w : World), wpOps P ops Q l a w → wpOpsIn (fen ro) n P ops Q' l (Act.wd df a) w
  | [], a, w, h => hQQ _ _ _ h
  | i :: rest, a, w, h => by
    have ih := fun a w h => ops_in (ro := ro) hQ hQQ hnd rest a w h
    simp only [wpOps] at h
    simp only [wpOpsIn]
    cases ho : ops[i]? with
    | none => rw [ho] at h; exact ih a w h
    | some o =>
      rw [ho] at h
      simp only at h ⊢
      have ho' : o ∈ ops.toList := by
        obtain ⟨hi, h2⟩ := Array.getElem?_eq_some_iff.1 ho
        rw [← h2]; simp
      show if Region.wanted o (yielded ops a.tmps) = true then _ else _
      split at h
      · rename_i hw
        rw [if_pos hw]
        rcases h with h | h
        · exact oper_in (hnd o ho') hQ ih hQQ h
        · exact absurd h.2 (letsOut_not hQ)
      · rename_i hw
        rw [if_neg hw, Act.wd_put]
        exact ⟨fun _ _ => trivial, ih _ _ h⟩

theorem region_in {ro : Option Nat} {id : Nat} {ops : Array Oper} {Q Q' : Exit → Act → World → Prop} {a : Act} {w : World} (hQ : ∀ a w, ¬ Q .outgrown a w) (hQQ : ∀ e a w, Q e a w → Q' e (Act.wd df a) w) (hnd : ∀ o ∈ ops.toList, notDefer o = true)
    (h : wpList P ops Q ops.toList a w) : (Code.region id ops false).wpIn (fen ro) n P Q' (Act.wd df a) w := by
  refine wpIn_region (ops_in hQ hQQ hnd _ a w ?_)
  rw [List.range_eq_range', ← Array.length_toList, wpOps_eq_wpList ops.toList 0 (by simp)]
  exact h
theorem region_draw_in {ro : Option Nat} {id : Nat} {ops : Array Oper} {Q Q' : Exit → Act → World → Prop} {a : Act} {w : World} (hQ : ∀ a w, ¬ Q .outgrown a w) (hQQ : ∀ e a w, Q e a w → Q' e (Act.wd df a) w) (hnd : ∀ o ∈ ops.toList, notDefer o = true)
    (h : ∀ t, wpOps P ops Q (Region.schedule (P.follows .mixedOrders) ops t) a { w with drawn := w.drawn + 1 }) : (Code.region id ops true).wpIn (fen ro) n P Q' (Act.wd df a) w :=
  wpIn_region_draw fun t => ops_in hQ hQQ hnd _ a _ (h t)
end
end Go.Ab

/-! slices.Backward: what its two functions do. -/
namespace Go.Ab
open Go.RowKit

/-- the text of the function that goes backwards; S: the slice's type, E: an element's, I: int, B: bool, Y: the type of what is called in each round -/
def genBody (S I B E Y : TypeId) : Code :=
  ((Code.region 0
            #[{ dst := some 4, op := Op.load S (Operand.tmp 1), type := S, pos := "iter.go:28", after := #[],
                guard := none },
              { dst := some 5,
                op := Op.call { callee := Callee.builtin Builtin.len, args := #[Operand.tmp 4], argTypes := #[S] },
                type := I, pos := "iter.go:28", after := #[{ on := 0, ground := Ground.data }], guard := none },
              { dst := some 6, op := Op.binOp BinOp.sub I (Operand.tmp 5) (Operand.const (Value.int IntKind.i64 1)) I,
                type := I, pos := "iter.go:28", after := #[{ on := 1, ground := Ground.data }], guard := none },
              { dst := some 3, op := Op.assign (Operand.tmp 6), type := I, pos := "iter.go:28",
                after :=
                  #[{ on := 2, ground := Ground.data }, { on := 0, ground := Ground.phase },
                    { on := 1, ground := Ground.phase }, { on := 2, ground := Ground.phase }],
                guard := none }]
            false).seq
        (Code.block 0
          (((Code.region 1
                      #[{ dst := some 7, op := Op.move (Operand.tmp 3), type := I, pos := "iter.go:28", after := #[],
                          guard := none },
                        { dst := some 8,
                          op := Op.binOp BinOp.geq I (Operand.tmp 7) (Operand.const (Value.int IntKind.i64 0)) I,
                          type := B, pos := "iter.go:28", after := #[{ on := 0, ground := Ground.data }],
                          guard := none }]
                      false).seq
                  (Code.cond (Operand.tmp 8) Code.skip (Code.exit 0))).seq
              ((Code.block 1
                    ((Code.region 3
                          #[{ dst := some 11, op := Op.move (Operand.tmp 0), type := Y, pos := "iter.go:29",
                              after := #[], guard := none },
                            { dst := some 12, op := Op.move (Operand.tmp 3), type := I, pos := "iter.go:29",
                              after := #[], guard := none },
                            { dst := some 13, op := Op.load S (Operand.tmp 1), type := S, pos := "iter.go:29",
                              after := #[], guard := none },
                            { dst := some 14, op := Op.move (Operand.tmp 3), type := I, pos := "iter.go:29",
                              after := #[], guard := none },
                            { dst := some 15, op := Op.indexAddr S (Operand.tmp 13) (Operand.tmp 14), type := 0,
                              pos := "iter.go:29",
                              after := #[{ on := 2, ground := Ground.data }, { on := 3, ground := Ground.data }],
                              guard := none },
                            { dst := some 16, op := Op.load E (Operand.tmp 15), type := E, pos := "iter.go:29",
                              after := #[{ on := 4, ground := Ground.data }], guard := none },
                            { dst := some 17,
                              op :=
                                Op.call
                                  { callee := Callee.value (Operand.tmp 11), args := #[Operand.tmp 12, Operand.tmp 16],
                                    argTypes := #[I, E] },
                              type := B, pos := "iter.go:29",
                              after :=
                                #[{ on := 0, ground := Ground.data }, { on := 1, ground := Ground.data },
                                  { on := 5, ground := Ground.data }],
                              guard := none },
                            { dst := some 18, op := Op.unOp UnOp.not B (Operand.tmp 17), type := B, pos := "iter.go:29",
                              after := #[{ on := 6, ground := Ground.data }], guard := none }]
                          false).seq
                      (Code.cond (Operand.tmp 18) Code.ret Code.skip))).seq
                (Code.region 2
                  #[{ dst := some 9, op := Op.move (Operand.tmp 3), type := I, pos := "iter.go:28", after := #[],
                      guard := none },
                    { dst := some 10,
                      op := Op.binOp BinOp.sub I (Operand.tmp 9) (Operand.const (Value.int IntKind.i64 1)) I, type := I,
                      pos := "iter.go:28", after := #[{ on := 0, ground := Ground.data }], guard := none },
                    { dst := some 3, op := Op.assign (Operand.tmp 10), type := I, pos := "iter.go:28",
                      after :=
                        #[{ on := 1, ground := Ground.data }, { on := 0, ground := Ground.phase },
                          { on := 1, ground := Ground.phase }],
                      guard := none }]
                  false))).loop))

/-- the text of the function that makes it -/
def mkBody (S F G : TypeId) (g : FuncId) : Code :=
  ((Code.region 0
            #[{ dst := some 1, op := Op.box S (Operand.tmp 0), type := 0, pos := "iter.go:26", after := #[],
                guard := none },
              { dst := some 2, op := Op.assign (Operand.const Value.nilFunc), type := F, pos := "iter.go:26",
                after := #[], guard := none }]
            false).seq
        ((Code.region 1
              #[{ dst := some 3, op := Op.makeFunc (Fn.func g) #[] #[Operand.tmp 1], type := G, pos := "iter.go:27",
                  after := #[], guard := none },
                { dst := some 2, op := Op.assign (Operand.tmp 3), type := F, pos := "iter.go:27",
                  after := #[{ on := 0, ground := Ground.data }, { on := 0, ground := Ground.phase }], guard := none }]
              false).seq
          Code.ret))

theorem fen_round (ro : Option Nat) : (fen ro).round = ro := rfl

section
variable {P : Program} {ro : Option Nat} {n : Nat}
theorem step_val {ops : Array Oper} {Q : Exit → Act → World → Prop} {i : Nat} {rest : List Nat} {a : Act} {w : World} {o : Oper} {d : Nat} {v : Value} (ho : ops[i]? = some o) (hg : o.guard = none) (hnd : notDefer o = true) (hd : o.dst = some d)
    (hr : (execOp a.eval o).run P w = .ok (.value v) w) (h : wpOpsIn (fen ro) n P ops Q rest (a.put (some d) v) w) : wpOpsIn (fen ro) n P ops Q (i :: rest) a w := by
  simp only [wpOpsIn, ho]
  have hw : Region.wanted o (yielded ops a.tmps) = true := by simp [Region.wanted, hg]
  rw [if_pos hw]
  refine ⟨fun _ _ => trivial, ?_⟩
  rw [Oper.semAt_eq _ _ _ (notDefer_ne hnd), hr, Oper.uponIn_value, hd]
  exact h
theorem step_valW {ops : Array Oper} {Q : Exit → Act → World → Prop} {i : Nat} {rest : List Nat} {a : Act} {w w' : World} {o : Oper} {d : Nat} {v : Value} (ho : ops[i]? = some o) (hg : o.guard = none) (hnd : notDefer o = true) (hd : o.dst = some d)
    (hr : (execOp a.eval o).run P w = .ok (.value v) w') (h : wpOpsIn (fen ro) n P ops Q rest (a.put (some d) v) w') : wpOpsIn (fen ro) n P ops Q (i :: rest) a w := by
  simp only [wpOpsIn, ho]
  have hw : Region.wanted o (yielded ops a.tmps) = true := by simp [Region.wanted, hg]
  rw [if_pos hw]
  refine ⟨fun _ _ => trivial, ?_⟩
  rw [Oper.semAt_eq _ _ _ (notDefer_ne hnd), hr, Oper.uponIn_value, hd]
  exact h
theorem step_round {ops : Array Oper} {Q : Exit → Act → World → Prop} {i : Nat} {rest : List Nat} {a : Act} {w w' : World} {o : Oper} {d : Nat} (ho : ops[i]? = some o) (hg : o.guard = none) (hnd : notDefer o = true) (hd : o.dst = some d)
    {l : Nat} {f : FuncId} {tmps : Array Value} {ca cb : Code} (hr : (execOp a.eval o).run P w = .ok (.round l f tmps ca cb) w') (h : RoundIn (fen ro) (n - 1) P l f tmps ca cb w' fun e w'' => ∃ v, e = .returned v ∧ wpOpsIn (fen ro) n P ops Q rest (a.put (some d) v) w'') : wpOpsIn (fen ro) n P ops Q (i :: rest) a w := by
  simp only [wpOpsIn, ho]
  have hw : Region.wanted o (yielded ops a.tmps) = true := by simp [Region.wanted, hg]
  rw [if_pos hw]
  refine ⟨fun _ _ => trivial, ?_⟩
  rw [Oper.semAt_eq _ _ _ (notDefer_ne hnd), hr, Oper.uponIn_round, hd]
  refine ⟨fun h => by simp [fen, Fence.wide] at h, h.mono ?_⟩
  rintro e w'' ⟨v, rfl, h⟩
  exact h
theorem ev_put {a : Act} {d : Nat} (hd : d < a.tmps.size) (v : Value) (s : Nat) : (a.put (some d) v).eval (.tmp s) = if s = d then v else a.eval (.tmp s) := Vals_put hd v s
theorem df_put {a : Act} (d : Nat) (v : Value) : (a.put (some d) v).defers = a.defers := rfl
theorem size_put {a : Act} (d : Nat) (v : Value) : (a.put (some d) v).tmps.size = a.tmps.size := by simp [Act.put]

/-- the slots of the function that goes backwards -/
structure G3 (a : Act) (y p i : Value) : Prop where
  size : a.tmps.size = 19
  e0 : a.eval (.tmp 0) = y
  e1 : a.eval (.tmp 1) = p
  e3 : a.eval (.tmp 3) = i
  df : a.defers = []

section
variable {ρ : Operand → Value} {o : Oper} {w w' : World} {v : Value}
theorem x_move {x : Operand} (ho : o.op = .move x) : (execOp ρ o).run P w = .ok (.value (ρ x)) w := by simp only [execOp, ho]; rfl
theorem x_assign {x : Operand} (ho : o.op = .assign x) : (execOp ρ o).run P w = .ok (.value (ρ x)) w := by simp only [execOp, ho]; rfl
theorem x_load {t : TypeId} {x : Operand} (ho : o.op = .load t x) (h : (Instr.loadAt t (ρ x)).run P w = .ok v w') : (execOp ρ o).run P w = .ok (.value v) w' := exec_v (by simp only [execOp, ho]) h
theorem x_bin {b : BinOp} {t u : TypeId} {x y : Operand} (ho : o.op = .binOp b t x y u) {i j : Int} (hx : ρ x = .int .i64 i) (hy : ρ y = .int .i64 j) (h : (binOp b t (.int .i64 i) (.int .i64 j)).run P w = .ok v w') : (execOp ρ o).run P w = .ok (.value v) w' :=
  exec_v (s := do eqGuard b t x y (ρ x) (ρ y); binOp b t (ρ x) (ρ y)) (by simp only [execOp, ho]) (by rw [hx, hy, binI_run]; exact h)
theorem x_len {c : Call} {S E : TypeId} {x : Operand} (ho : o.op = .call c) (hc : c.callee = .builtin .len) (ha : c.args = #[x]) (ht : c.argTypes = #[S]) (hS : P.underlying S = some (.slice E)) {ad : Option Addr} {n cap : Nat} (hx : ρ x = .slice ad n cap) :
    (execOp ρ o).run P w = .ok (.value (.int .i64 n)) w := by
  obtain ⟨cs, he⟩ := exec_builtin (ρ := ρ) ho hc
  refine exec_v (s := Builtin.len_ c.argTypes o.type (c.args.map ρ)) (by rw [he]; rfl) ?_
  rw [ha, ht]
  simp [hx, Builtin.len_, run_underlying hS, goInt]
theorem x_index {t : TypeId} {x i : Operand} (ho : o.op = .indexAddr t x i) {e : Ty} (hT : TM P (.sl e) t) {blk off len cap : Nat} {k : Int} (hx : ρ x = .slice (some ⟨blk, off, none⟩) len cap) (hi : ρ i = .int .i64 k) (h : inb k len = true) :
    (execOp ρ o).run P w = .ok (.value (.pointer (some ⟨blk, off + k.toNat * sz e, none⟩))) w :=
  exec_v (s := Instr.indexAt t (ρ x) (ρ i)) (by simp only [execOp, ho]) (by rw [hx, hi]; exact indexAt_slice_run hT h)
theorem x_not {t : TypeId} {x : Operand} (ho : o.op = .unOp .not t x) {b : Bool} (hx : ρ x = .bool b) : (execOp ρ o).run P w = .ok (.value (.bool !b)) w :=
  exec_v (s := Op.unary .not (ρ x)) (by simp only [execOp, ho]) (by rw [hx]; rfl)
theorem x_yield {c : Call} {f : Operand} (ho : o.op = .call c) (hc : c.callee = .value f) {l : Nat} (hf : ρ f = .func (.yield l) #[] #[]) {nx : Next} (h : (Instr.yield l (c.args.map ρ)).run P w = .ok nx w') : (execOp ρ o).run P w = .ok nx w' := by
  simp only [execOp, ho, resolve, hc, hf, Deferred.ofValue, pure_bind, invoke, Array.empty_append]
  exact h
end

/-- how many rounds are left -/
def muG (a : Act) : Nat := match a.eval (.tmp 3) with | .int _ i => (i + 1).toNat | _ => 0
theorem muG_of {a : Act} {y p : Value} {k : Nat} (h : G3 a y p (.int .i64 ((k : Int) - 1))) : muG a = k := by
  unfold muG
  rw [h.e3]; simp

set_option maxHeartbeats 800000 in
theorem gen_calls {S I B E Y : TypeId} {fn : Func} {g : FuncId} (hf : P.funcs[g]? = some fn) (hb : fn.body = some (genBody S I B E Y)) (hn : fn.ntmps = 19) (hres : fn.results = #[])
    {e : Ty} (hS : TM P (.sl e) S) (hSE : P.underlying S = some (.slice E)) {l : Nat} {pv : Value} {ad : Option Addr} {n cap : Nat} (hmax : n ≤ maxLen) (J : Nat → World → Prop) (vs : Nat → Value)
    (hslice : ∀ k W, J k W → (Instr.loadAt S pv).run P W = .ok (.slice ad n cap) W)
    (hload : ∀ k W, J (k + 1) W → k < n → ∃ blk off, ad = some ⟨blk, off, none⟩ ∧ (Instr.loadAt E (.pointer (some ⟨blk, off + k * sz e, none⟩))).run P W = .ok (vs k) W)
    (hround : ∀ k W, J (k + 1) W → k < n → YieldAt (fen none) 0 P l #[.int .i64 k, vs k] W fun e W' => e = .returned (.bool true) ∧ J k W')
    {W : World} (h0 : J n W) : CallsIn (fen none) 0 P g #[.func (.yield l) #[] #[], pv] W fun e W' => (∃ v, e = .returned v) ∧ J 0 W' := by
  have hm9 : n ≤ 9223372036854775807 := by simpa [maxLen] using hmax
  refine callsIn_of_wp hf hb trivial ?_
  obtain ⟨a0, ha0⟩ : ∃ a0 : Act, a0 = { tmps := #[Value.func (.yield l) #[] #[], pv] ++ Array.replicate (fn.ntmps - #[Value.func (.yield l) #[] #[], pv].size) undef, defers := [] } := ⟨_, rfl⟩
  have hG0 : G3 a0 (.func (.yield l) #[] #[]) pv undef := by
    rw [ha0, hn]
    exact ⟨by simp, by simp [Act.eval], by simp [Act.eval], by simp [Act.eval], rfl⟩
  rw [← ha0]
  clear ha0
  unfold genBody
  have ev : ∀ {a : Act} {d : Nat} (_ : d < a.tmps.size) (v : Value) (s : Nat), (a.put (some d) v).eval (.tmp s) = if s = d then v else a.eval (.tmp s) := fun h v s => ev_put h v s
  refine wpIn_seq (wpIn_region ?_)
  show wpOpsIn _ _ _ _ _ [0, 1, 2, 3] _ _
  have hs0 := hG0.size
  refine step_val rfl rfl rfl rfl (x_load rfl (by rw [hG0.e1]; exact hslice n W h0)) ?_
  refine step_val rfl rfl rfl rfl (x_len rfl rfl rfl rfl hSE (by rw [ev (by omega)]; exact if_pos rfl)) ?_
  refine step_val rfl rfl rfl rfl (x_bin rfl (i := n) (j := 1) (by rw [ev (by simp [size_put]; omega)]; exact if_pos rfl) rfl (v := .int .i64 ((n : Int) - 1)) ?_) ?_
  · rw [binOp_sub]
    show Result.ok (Value.int .i64 (IntKind.i64.wrap ((n : Int) - 1))) W = _
    rw [Go.IntWalk.i64_in _ (by omega)]
  refine step_val rfl rfl rfl rfl (x_assign rfl) ?_
  show Code.wpIn _ _ _ _ _ _ _
  have sz : ∀ {a : Act} {d : Nat} {v : Value}, (a.put (some d) v).tmps.size = a.tmps.size := fun {a d v} => size_put d v
  have hG : G3 ((((a0.put (some 4) (.slice ad n cap)).put (some 5) (.int .i64 n)).put (some 6) (.int .i64 ((n : Int) - 1))).put (some 3) (.int .i64 ((n : Int) - 1))) (.func (.yield l) #[] #[]) pv (.int .i64 ((n : Int) - 1)) := by
    refine ⟨by simp [sz, hs0], ?_, ?_, ?_, by simp only [df_put]; exact hG0.df⟩
    · simp (disch := simp [sz, hs0]) [ev, hG0.e0]
    · simp (disch := simp [sz, hs0]) [ev, hG0.e1]
    · simp (disch := simp [sz, hs0]) [ev]
  have hlast : a0.put (some 3) (.int .i64 0) = a0.put (some 3) (.int .i64 0) := rfl
  generalize (a0.put (some 4) (Value.slice ad n cap)).put (some 5) (Value.int IntKind.i64 n) = a1 at hG ⊢
  have e6 : ∀ v, (a1.put (some 6) v).eval (.tmp 6) = v := fun v => by
    have := hG.size
    simp only [sz] at this
    rw [ev (by omega)]; exact if_pos rfl
  rw [e6]
  generalize (a1.put (some 6) (Value.int IntKind.i64 ((n : Int) - 1))).put (some 3) (Value.int IntKind.i64 ((n : Int) - 1)) = a2 at hG ⊢
  clear e6
  refine wpIn_block (wpIn_loop (fun a w => ∃ k, k ≤ n ∧ G3 a (.func (.yield l) #[] #[]) pv (.int .i64 ((k : Int) - 1)) ∧ J k w)
    (fun a _ => muG a) ⟨n, Nat.le_refl _, hG, h0⟩ ?_)
  rintro a w ⟨k, hk, hA, hJ⟩
  have hsz := hA.size
  refine wpIn_seq (wpIn_seq (wpIn_region ?_))
  show wpOpsIn _ _ _ _ _ [0, 1] _ _
  refine step_val rfl rfl rfl rfl (x_move rfl) ?_
  rw [hA.e3]
  refine step_val rfl rfl rfl rfl (v := .bool (decide (1 ≤ k))) (x_bin rfl (i := (k : Int) - 1) (j := 0) (by rw [ev (by omega)]; exact if_pos rfl) rfl ?_) ?_
  · rw [binOp_geq]
    show Result.ok (Value.bool (decide ((k : Int) - 1 ≥ 0))) w = _
    congr 2
    exact decide_eq_decide.2 ⟨fun h => by omega, fun h => by omega⟩
  show Code.wpIn _ _ _ _ _ _ _
  have e8 : ((a.put (some 7) (.int .i64 ((k : Int) - 1))).put (some 8) (.bool (decide (1 ≤ k)))).eval (.tmp 8) = .bool (decide (1 ≤ k)) := by rw [ev (by rw [sz]; omega)]; exact if_pos rfl
  have hB : G3 ((a.put (some 7) (.int .i64 ((k : Int) - 1))).put (some 8) (.bool (decide (1 ≤ k)))) (.func (.yield l) #[] #[]) pv (.int .i64 ((k : Int) - 1)) := by
    refine ⟨by simp [sz, hsz], ?_, ?_, ?_, by simp only [df_put]; exact hA.df⟩
    · simp (disch := simp [sz, hsz]) [ev, hA.e0]
    · simp (disch := simp [sz, hsz]) [ev, hA.e1]
    · simp (disch := simp [sz, hsz]) [ev, hA.e3]
  have hmu := muG_of hA
  rw [hmu]
  generalize (a.put (some 7) (Value.int IntKind.i64 ((k : Int) - 1))).put (some 8) (Value.bool (decide (1 ≤ k))) = b at e8 hB ⊢
  refine wpIn_cond_split e8 (fun h => wpIn_skip ?_) (fun h => wpIn_exit ?_)
  · -- one more round
    have hk1 : 1 ≤ k := by simpa using h
    obtain ⟨k, rfl⟩ : ∃ j, k = j + 1 := ⟨k - 1, by omega⟩
    have hkn : k < n := by omega
    obtain ⟨blk, off, rfl, hld⟩ := hload k w hJ hkn
    obtain ⟨fnR, tmpsR, caR, cbR, hy, hR⟩ := hround k w hJ hkn
    have hbz := hB.size
    have hik : ((k + 1 : Nat) : Int) - 1 = (k : Int) := by omega
    have hB3 := hB.e3
    rw [hik] at hB3
    show Code.wpIn _ _ _ _ _ _ _
    refine wpIn_seq (wpIn_block (wpIn_seq (wpIn_region ?_)))
    show wpOpsIn _ _ _ _ _ [0, 1, 2, 3, 4, 5, 6, 7] _ _
    refine step_val rfl rfl rfl rfl (x_move rfl) ?_
    rw [hB.e0]
    refine step_val rfl rfl rfl rfl (x_move rfl) ?_
    rw [show (b.put (some 11) (Value.func (Fn.yield l) #[] #[])).eval (.tmp 3) = .int .i64 k by rw [ev (by omega), if_neg (by decide), hB3]]
    refine step_val rfl rfl rfl rfl (x_load rfl (by rw [ev (by rw [sz]; omega), if_neg (by decide), ev (by omega), if_neg (by decide), hB.e1]; exact hslice _ w hJ)) ?_
    refine step_val rfl rfl rfl rfl (x_move rfl) ?_
    rw [show (((b.put (some 11) (Value.func (Fn.yield l) #[] #[])).put (some 12) (.int .i64 k)).put (some 13) (.slice (some ⟨blk, off, none⟩) n cap)).eval (.tmp 3) = .int .i64 k by
      simp (disch := simp [sz, hbz]) [ev, hB3]]
    refine step_val rfl rfl rfl rfl (x_index rfl hS (k := k) (len := n) (cap := cap) (blk := blk) (off := off) (by simp (disch := simp [sz, hbz]) [ev]) (by simp (disch := simp [sz, hbz]) [ev]) (by simp [inb]; omega)) ?_
    refine step_val rfl rfl rfl rfl (v := vs k) (x_load rfl (by
      rw [ev (by simp [sz, hbz]), if_pos rfl]; simpa using hld)) ?_
    refine step_round rfl rfl rfl rfl (x_yield rfl rfl (l := l) (by simp (disch := simp [sz, hbz]) [ev]) (by
      have e1 : ∀ (x : Act), x.tmps.size = 19 → True := fun _ _ => trivial
      simp (disch := simp [sz, hbz]) only [List.map_toArray, List.map_cons, List.map_nil, ev, Nat.reduceEqDiff, if_false, if_true]
      exact hy)) ?_
    refine hR.mono ?_
    rintro e2 W2 ⟨rfl, hJ2⟩
    refine ⟨_, rfl, ?_⟩
    refine step_val rfl rfl rfl rfl (x_not rfl (b := true) (by simp (disch := simp [sz, hbz]) [ev])) ?_
    show Code.wpIn _ _ _ _ _ _ _
    have e18 : ∀ (c : Act) (v : Value), 18 < c.tmps.size → (c.put (some 18) v).eval (.tmp 18) = v := fun c v h => by rw [ev h]; exact if_pos rfl
    refine wpIn_cond_false (e18 _ _ (by simp [sz, hbz])) (wpIn_skip ?_)
    -- the step back
    show Code.wpIn _ _ _ _ _ _ _
    have hC : G3 ((((((((b.put (some 11) (Value.func (Fn.yield l) #[] #[])).put (some 12) (.int .i64 k)).put (some 13) (.slice (some ⟨blk, off, none⟩) n cap)).put (some 14) (.int .i64 k)).put (some 15) (.pointer (some ⟨blk, off + (k : Int).toNat * Ab.sz e, none⟩))).put (some 16) (vs k)).put (some 17) (.bool true)).put (some 18) (.bool !true)) (.func (.yield l) #[] #[]) pv (.int .i64 k) := by
      refine ⟨by simp [sz, hbz], ?_, ?_, ?_, by simp only [df_put]; exact hB.df⟩
      · simp (disch := simp [sz, hbz]) [ev, hB.e0]
      · simp (disch := simp [sz, hbz]) [ev, hB.e1]
      · simp (disch := simp [sz, hbz]) [ev, hB3]
    generalize ((((((((b.put (some 11) (Value.func (Fn.yield l) #[] #[])).put (some 12) (.int .i64 k)).put (some 13) (.slice (some ⟨blk, off, none⟩) n cap)).put (some 14) (.int .i64 k)).put (some 15) (.pointer (some ⟨blk, off + (k : Int).toNat * Ab.sz e, none⟩))).put (some 16) (vs k)).put (some 17) (.bool true)).put (some 18) (.bool !true)) = c at hC ⊢
    have hcz := hC.size
    refine wpIn_region ?_
    show wpOpsIn _ _ _ _ _ [0, 1, 2] _ _
    refine step_val rfl rfl rfl rfl (x_move rfl) ?_
    rw [hC.e3]
    refine step_val rfl rfl rfl rfl (v := .int .i64 ((k : Int) - 1)) (x_bin rfl (i := (k : Int)) (j := 1) (by rw [ev (by omega)]; exact if_pos rfl) rfl ?_) ?_
    · rw [binOp_sub]
      show Result.ok (Value.int .i64 (IntKind.i64.wrap ((k : Int) - 1))) W2 = _
      rw [Go.IntWalk.i64_in _ (by omega)]
    refine step_val rfl rfl rfl rfl (x_assign rfl) ?_
    rw [show ((c.put (some 9) (Value.int IntKind.i64 k)).put (some 10) (.int .i64 ((k : Int) - 1))).eval (.tmp 10) = .int .i64 ((k : Int) - 1) by rw [ev (by rw [sz]; omega)]; exact if_pos rfl]
    have hD : G3 (((c.put (some 9) (Value.int IntKind.i64 k)).put (some 10) (.int .i64 ((k : Int) - 1))).put (some 3) (.int .i64 ((k : Int) - 1))) (.func (.yield l) #[] #[]) pv (.int .i64 ((k : Int) - 1)) := by
      refine ⟨by simp [sz, hcz], ?_, ?_, ?_, by simp only [df_put]; exact hC.df⟩
      · simp (disch := simp [sz, hcz]) [ev, hC.e0]
      · simp (disch := simp [sz, hcz]) [ev, hC.e1]
      · simp (disch := simp [sz, hcz]) [ev]
    exact ⟨⟨k, by omega, hD, hJ2⟩, by rw [muG_of hD]; omega⟩
  · -- the end
    have hk0 : k = 0 := by simpa using h
    subst hk0
    simp only [Exit.then, Exit.inBlock, if_true]
    show bodyPost P fn _ .normal b w
    refine ⟨hB.df, .tuple #[], ?_, ⟨_, rfl⟩, hJ⟩
    simp [results, hres]

theorem mk_calls {S F G : TypeId} {fn : Func} {f g : FuncId} (hf : P.funcs[f]? = some fn) (hb : fn.body = some (mkBody S F G g)) (hn : fn.ntmps = 4) (hres : fn.results = #[.tmp 2]) {e : Ty} (hS : TM P (.sl e) S)
    {ad : Option Addr} {n cap : Nat} {W : World} : Calls P f #[.slice ad n cap] W fun e W' => ∃ el, e = .returned (.func (.func g) #[] #[.pointer (some ⟨W.heap.size, 0, none⟩)]) ∧ W' = W.alloc (.cells #[.slice ad n cap] el) := by
  refine calls_fen (n := 0) (callsIn_of_wp hf hb trivial ?_)
  obtain ⟨a0, ha0⟩ : ∃ a0 : Act, a0 = { tmps := #[Value.slice ad n cap] ++ Array.replicate (fn.ntmps - #[Value.slice ad n cap].size) undef, defers := [] } := ⟨_, rfl⟩
  have hs0 : a0.tmps.size = 4 := by rw [ha0, hn]; simp
  have h0 : a0.eval (.tmp 0) = .slice ad n cap := by rw [ha0, hn]; simp [Act.eval]
  have hd0 : a0.defers = [] := by rw [ha0]
  rw [← ha0]
  clear ha0
  unfold mkBody
  have ev : ∀ {a : Act} {d : Nat} (_ : d < a.tmps.size) (v : Value) (s : Nat), (a.put (some d) v).eval (.tmp s) = if s = d then v else a.eval (.tmp s) := fun h v s => ev_put h v s
  have sz : ∀ {a : Act} {d : Nat} {v : Value}, (a.put (some d) v).tmps.size = a.tmps.size := fun {a d v} => size_put d v
  refine wpIn_seq (wpIn_region ?_)
  show wpOpsIn _ _ _ _ _ [0, 1] _ _
  refine step_valW rfl rfl rfl rfl (v := .pointer (some ⟨W.heap.size, 0, none⟩)) (w' := W.alloc (.cells #[.slice ad n cap] S)) (by simp [execOp, Instr.box, newVar, newRow, h0, Value.cells]) ?_
  refine step_val rfl rfl rfl rfl (x_assign rfl) ?_
  show Code.wpIn _ _ _ _ _ _ _
  have e1 : ((a0.put (some 1) (.pointer (some ⟨W.heap.size, 0, none⟩))).put (some 2) ((a0.put (some 1) (.pointer (some ⟨W.heap.size, 0, none⟩))).eval (.const .nilFunc))).eval (.tmp 1) = .pointer (some ⟨W.heap.size, 0, none⟩) := by
    simp (disch := simp [sz, hs0]) [ev]
  have hz1 : ((a0.put (some 1) (.pointer (some ⟨W.heap.size, 0, none⟩))).put (some 2) ((a0.put (some 1) (.pointer (some ⟨W.heap.size, 0, none⟩))).eval (.const .nilFunc))).tmps.size = 4 := by simp [sz, hs0]
  have hd1 : ((a0.put (some 1) (.pointer (some ⟨W.heap.size, 0, none⟩))).put (some 2) ((a0.put (some 1) (.pointer (some ⟨W.heap.size, 0, none⟩))).eval (.const .nilFunc))).defers = [] := by simp only [df_put]; exact hd0
  generalize (a0.put (some 1) (Value.pointer (some ⟨W.heap.size, 0, none⟩))).put (some 2) ((a0.put (some 1) (Value.pointer (some ⟨W.heap.size, 0, none⟩))).eval (.const .nilFunc)) = a1 at e1 hz1 hd1 ⊢
  refine wpIn_seq (wpIn_region ?_)
  show wpOpsIn _ _ _ _ _ [0, 1] _ _
  refine step_val rfl rfl rfl rfl (v := .func (.func g) #[] #[.pointer (some ⟨W.heap.size, 0, none⟩)]) (exec_v (s := Instr.makeFunc (.func g) (#[].map a1.eval) (#[.tmp 1].map a1.eval)) rfl (by simp [Instr.makeFunc, e1])) ?_
  refine step_val rfl rfl rfl rfl (x_assign rfl) ?_
  refine wpIn_ret ?_
  rw [ev (by omega), if_pos rfl]
  refine ⟨by simp only [df_put]; exact hd1, .func (.func g) #[] #[.pointer (some ⟨W.heap.size, 0, none⟩)], ?_, S, rfl, rfl⟩
  have e2 : ((a1.put (some 3) (Value.func (.func g) #[] #[.pointer (some ⟨W.heap.size, 0, none⟩)])).put (some 2) (Value.func (.func g) #[] #[.pointer (some ⟨W.heap.size, 0, none⟩)])).tmps.getD 2 undef = Value.func (.func g) #[] #[.pointer (some ⟨W.heap.size, 0, none⟩)] := by
    have := ev (a := a1.put (some 3) (Value.func (.func g) #[] #[.pointer (some ⟨W.heap.size, 0, none⟩)])) (d := 2) (by rw [sz]; omega) (Value.func (.func g) #[] #[.pointer (some ⟨W.heap.size, 0, none⟩)]) 2
    rw [if_pos rfl] at this
    exact this
  generalize ((a1.put (some 3) (Value.func (.func g) #[] #[.pointer (some ⟨W.heap.size, 0, none⟩)])).put (some 2) (Value.func (.func g) #[] #[.pointer (some ⟨W.heap.size, 0, none⟩)])).tmps = tm at e2 ⊢
  simp only [results, hres, List.mapM_toArray, List.mapM_cons, List.mapM_nil, e2, pure_bind, map_pure]
  rfl
end
end Go.Ab
