/- A function's text, with walks backwards, does as it is told. -/
import Derived.Test.YtokjogplnoeicaaAbNon
namespace Go.Ab

section
variable {P : Program} {T : Tab} {Φ : Nat → Option Contract} {R : Type} {r : R}

theorem SlotR_i64 {w : World} {g : Gh} {av : Nat → AV} {s : Nat} {m : Md} {k : Int} {v : Value} (h : SlotR w g av s (.v (.int .i64) m k) v) : v = .int .i64 k := by
 obtain ⟨_, hsh, hr⟩ := h
 have hsh : v.cells = #[v] := hsh
 have hr : v.cells[0 + 0]? = some (.int .i64 k) := hr
 rw [hsh] at hr
 simpa using hr

/-- what is asked of drawn regions, whatever stands at the beginning -/
def DrawAll (P : Program) (T : Tab) (Φ : Nat → Option Contract) (N : Nat) : Prop := ∀ (w0 : World) (mu : Mu) (io : List Nat), (∀ s, mu.far s ↔ lentC.1 ≤ s) → (∀ s, mu.pin s ≠ none → s ∈ io) → DrawOK P T Φ w0 mu N io

/-- what a text is asked, in a round or not -/
def CodeOK (P : Program) (T : Tab) (Φ : Nat → Option Contract) (N : Nat) (keep : Nat → List Nat) (n : Nat) (R : Type) (r : R) (c : Code) : Prop :=
 ∀ (ro : Option Nat) (io : List Nat) (w0 : World) (mu : Mu) (Ds : List Nat) (b : Nat) (K : St → Option R) (Kx : Nat → St → Option R) (Kr : St → Option R) (Q : Exit → Act → World → Prop) (st : St) (a : Act) (w : World),
  (∀ s, mu.far s ↔ lentC.1 ≤ s) → (∀ s, mu.pin s ≠ none → s ∈ io) → codeB N io c = true → (ro = none ∨ noRF c = true) → code T Φ (fun _ F => iter n F) keep b c K Kx Kr st = some r → At w0 mu N st a w →
  (∀ w1 mu1 Ds1 st a w, Later w0 mu w1 mu1 Ds1 → K st = some r → At w1 mu1 N st a w → Q .normal (Act.wd ((Ds1 ++ Ds).map coll) a) w) →
  (∀ w1 mu1 Ds1 i st a w, Later w0 mu w1 mu1 Ds1 → Kx i st = some r → At w1 mu1 N st a w → Q (.exit i) (Act.wd ((Ds1 ++ Ds).map coll) a) w) →
  (∀ w1 mu1 Ds1 st a w, Later w0 mu w1 mu1 Ds1 → Kr st = some r → At w1 mu1 N st a w → Q .ret (Act.wd ((Ds1 ++ Ds).map coll) a) w) → c.wpIn (fen ro) 0 P Q (Act.wd (Ds.map coll) a) w

theorem range_ok (hE : EnvOK P T Φ) {N : Nat} (hN : N ≤ lentC.1) {keep : Nat → List Nat} {n : Nat} {f : Operand} {ps : Array Tmp} {ca cb : Code} (iha : CodeOK P T Φ N keep n R r ca) (ihb : CodeOK P T Φ N keep n R r cb) : CodeOK P T Φ N keep n R r (.rangeFunc f ps ca cb) := by
 intro ro io w0 mu Ds b K Kx Kr Q st a w hfar hp hc hro h hA hK _ _
 have hro : ro = none := hro.resolve_right (by simp [noRF])
 subst hro
 simp only [codeB, Bool.and_eq_true] at hc
 obtain ⟨⟨⟨⟨hcp, hca⟩, hcb⟩, hna⟩, hnb⟩ := hc
 simp only [code] at h
 unfold rfStart at h
 split at h
 case h_2 => cases h
 rename_i t
 split at h
 case h_2 => cases h
 rename_i p0 p1 hps
 obtain ⟨hcond, h⟩ := guardK_some h
 simp only [Bool.and_eq_true] at hcond
 obtain ⟨⟨hpp, htW⟩, hp0W⟩ := hcond
 have htW := memB_false htW
 have hp0W := memB_false hp0W
 have hpne : p0 ≠ p1 := fun he => by subst he; simp [Nat.beq_refl] at hpp
 obtain ⟨g0, e, m, x, S, hst, hbk, hty, h⟩ := backArg_some h
 obtain ⟨hlim, h⟩ := guardB_some h
 have hlim : List.length x ≤ lim := Nat.le_of_ble_eq_true hlim
 have hp0N : p0 < N := by
  have := List.all_eq_true.1 hcp p0 (by rw [hps]; simp)
  simpa [Nat.blt_eq] using this
 have hp1N : p1 < N := by
  have := List.all_eq_true.1 hcp p1 (by rw [hps]; simp)
  simpa [Nat.blt_eq] using this
 have hpsA : ps = #[p0, p1] := by cases ps; simp at hps; subst hps; rfl
 obtain ⟨WS, hWS⟩ : ∃ WS, WS = p0 :: p1 :: (wrC ca ++ wrC cb) := ⟨_, rfl⟩
 have hNt : a.tmps.size = N := hA.size
 have hnf : ∀ s, s < N → ¬ mu.far s := fun s hs hf => by have := (hfar s).1 hf; omega
 -- the value of what goes
 obtain ⟨gh, hI⟩ := hA.inv
 have hVt : VR w gh st.get (.clo g0 [.rop (.sl e) m x]) (Vals a t) := by
  have := hI.slots t
  rw [hst] at this
  exact this
 obtain ⟨pv, hval, hWk⟩ := walks_of (P := P) S hVt
 have hbkg := hE.bk g0
 rw [hbk] at hbkg
 obtain ⟨hFn, fnG, I0, E0, B0, Y0, q1, q2, q3, q4, q5⟩ := hbkg
 have hTM : TM P (.sl e) S := ((hE.tab _).1 _ hty).1
 have hTE : TM P e E0 := by
  obtain ⟨te, h1, h2, _⟩ := hTM
  rw [q5] at h1
  cases h1; exact h2
 obtain ⟨ad0, adx, cap, rfl, c1, c2, c3, c4, c5, c6⟩ := hWk.at'
 obtain ⟨blk0, off0, sp0⟩ := ad0
 simp only at c1 c2 c3 c4
 subst c1
 -- the world in which the walk begins
 refine wpIn_rangeFunc fun fn hfn => ?_
 obtain ⟨rec, hrec⟩ : ∃ rec : LoopState → Loop, rec = fun s => { state := s, pending := none, fn, tmps := a.tmps, params := ps, assign := ca, body := cb, defers := w.heap.size } := ⟨_, rfl⟩
 obtain ⟨W1, hW1⟩ : ∃ W1, (w.alloc (.deferred (some []))).alloc (.loop (rec .ready)) = W1 := ⟨_, rfl⟩
 obtain ⟨lp, hlp⟩ : ∃ lp, lp = w.heap.size + 1 := ⟨_, rfl⟩
 have hsz1 : W1.heap.size = w.heap.size + 2 := by rw [← hW1, World.size_alloc, World.size_alloc]
 have hl1 : W1.heap[lp]? = some (.loop (rec .ready)) := by
  rw [← hW1, hlp]
  have := World.alloc_heap_new (w.alloc (.deferred (some []))) (.loop (rec .ready))
  rwa [World.size_alloc] at this
 have hold1 : ∀ b, b < w.heap.size → W1.heap[b]? = w.heap[b]? := fun b hb => by
  rw [← hW1]
  show ((w.heap.push _).push _)[b]? = _
  rw [Array.getElem?_push_lt (by simp; omega), Array.getElem_push_lt hb, Array.getElem?_eq_getElem hb]
 have hD1 : W1.heap[w.heap.size]? = some (.deferred (some [])) := by
  rw [← hW1]
  show ((w.heap.push _).push _)[w.heap.size]? = _
  rw [Array.getElem?_push_lt (by simp)]
  simp
 have hgnew : ∀ b, w.heap.size ≤ b → gh.col b = none := fun b hb => by
  cases hgc : gh.col b with
  | none => rfl
  | some k => have := (hI.cols b k hgc).1; omega
 obtain ⟨mu1, hmu1⟩ : ∃ mu1, mu1 = muR gh mu mu.pin := ⟨_, rfl⟩
 have hnot1 : ∀ b, (gh.col b = none ∨ gh.col b = some lentC) → ¬ mu1 b := by
  intro b hb hm
  rw [hmu1] at hm
  obtain ⟨k, hk, hkl⟩ := hm
  rcases hb with hb | hb
  ·rw [hb] at hk; cases hk
  ·rw [hb] at hk; cases hk; exact hkl rfl
 have hshn : ∀ {l : Bool} {b : Nat}, shared gh.col l b → ¬ mu1 b := fun hs => hnot1 _ (hs.imp id And.right)
 have hI1 : ∀ {av : Nat → AV} {val : Nat → Value} {U : Nat → Prop}, Inv w0 mu av val U w gh → Inv W1 mu1 av val U W1 gh := fun hi => by
  rw [hmu1, ← hW1]
  exact rebase (Inv_alloc (Inv_alloc hi _) _) (NonC.refl _) (fun s hs => hs) _
 -- what lies where, as long as those blocks are as they were
 have hfrR : ∀ W, Fr W1 mu1 W → (W.heap[blk0]? = w.heap[blk0]?) ∧ W.heap[lp]? = some (.loop (rec .ready)) ∧ W.heap[w.heap.size]? = some (.deferred (some [])) := fun W hf =>
  ⟨(hf.old blk0 (by omega) (hshn c3)).trans (hold1 _ c2), (hf.old lp (by omega) (hnot1 _ (.inl (hgnew _ (by omega))))).trans hl1, (hf.old _ (by omega) (hnot1 _ (.inl (hgnew _ (Nat.le_refl _))))).trans hD1⟩
 have hslice : ∀ W, Fr W1 mu1 W → W.cell? ⟨blk0, off0, none⟩ = some (.slice adx (List.length x) cap) := fun W hf => by rw [cell?_congr (hfrR W hf).1]; exact c4
 have hloadS : ∀ W, Fr W1 mu1 W → (Instr.loadAt S (.pointer (some ⟨blk0, off0, none⟩))).run P W = .ok (.slice adx (List.length x) cap) W := fun W hf => by
  obtain ⟨v, h1, h2, h3⟩ := load_run (w := W) hTM (b := blk0) (o := off0) (cs := [.slice adx (List.length x) cap]) rfl (fun j c hc => by
   cases j with
   | zero => simp at hc; subst hc; simpa using hslice W hf
   | succ j => simp at hc) (fun c hc => by simp at hc; subst hc; rfl)
  have h2 : v.cells = #[v] := h2
  rw [h2] at h3
  simp at h3
  rw [h1, h3]
 have helem : ∀ k, k < List.length x → ∃ blk off, adx = some ⟨blk, off, none⟩ ∧ blk < w.heap.size ∧ shared gh.col m.lent? blk ∧ RO w gh.col m.lent? e (fun j => w.cell? ⟨blk, off + k * sz e + j, none⟩) 0 (List.getD x k (dflt e)) := by
  intro k hk
  cases adx with
  | none => obtain ⟨rfl, _⟩ := c6; cases hk
  | some ad =>
   rcases c6 with c6 | ⟨d1, d2, d3, d4⟩
   ·omega
   ·obtain ⟨blk, off, sp⟩ := ad
    simp only at d1 d2 d3 d4
    subst d1
    exact ⟨blk, off, rfl, d2, d3, d4 k hk⟩
 have hvs : ∀ k, ∃ v, k < List.length x → ∃ blk off, adx = some ⟨blk, off, none⟩ ∧ blk < w.heap.size ∧ shared gh.col m.lent? blk ∧ shapeV e v ∧ (∀ W : World, W.heap[blk]? = w.heap[blk]? → (Instr.loadAt E0 (.pointer (some ⟨blk, off + k * sz e, none⟩))).run P W = .ok v W) ∧ ∀ j, j < sz e → v.cells[0 + j]? = w.cell? ⟨blk, off + k * sz e + j, none⟩ := by
  intro k
  by_cases hk : k < List.length x
  ·obtain ⟨blk, off, h1, h2, h3, h4⟩ := helem k hk
   obtain ⟨v, h5, h6, h7⟩ := read_of hTE h4
   exact ⟨v, fun _ => ⟨blk, off, h1, h2, h3, h5, h6, h7⟩⟩
  ·exact ⟨undef, fun h => absurd h hk⟩
 obtain ⟨vs, hvs⟩ := Classical.axiomOfChoice hvs
 -- between the rounds
 obtain ⟨FF, hFF⟩ : ∃ FF : (St → Option R) → St → Option R, FF = fun G st => rfRound T (.tmp t) ps ca cb K (code T Φ (fun _ F => iter n F) keep b ca (fun st => code T Φ (fun _ F => iter n F) keep b cb (fun st => norm (keep b) st G) (fun _ _ => none) (fun _ => none) st) (fun _ _ => none) (fun _ => none)) st := ⟨_, rfl⟩
 rw [← hFF] at h
 have hround : ∀ (m' : Nat) (st : St), iter m' FF st = some r → ∃ m'' mm k, m' = m'' + 1 ∧ st.get p0 = .v (.int .i64) mm k ∧ ((k ≤ 0 ∧ K (clrL WS st) = some r) ∨ (0 < k ∧ backArg T st t (fun e l x => bif inb (k - 1) (List.length x) then
   code T Φ (fun _ F => iter n F) keep b ca (fun st => code T Φ (fun _ F => iter n F) keep b cb (fun st => norm (keep b) st (iter m'' FF)) (fun _ _ => none) (fun _ => none) st) (fun _ _ => none) (fun _ => none) (((clrL WS st).set p0 (.v (.int .i64) (.bor false true) (k - 1))).set p1 (.v e (.bor l false) (List.getD x (k - 1).toNat (dflt e)))) else none) = some r)) := by
  intro m' st h
  cases m' with
  | zero => cases h
  | succ m'' =>
   have h : FF (iter m'' FF) st = some r := h
   rw [hFF] at h
   simp only at h
   rw [← hFF] at h
   unfold rfRound at h
   simp only [hps] at h
   split at h
   ·rename_i mm k hg
    refine ⟨m'', mm, k, rfl, hg, ?_⟩
    rw [← hWS] at h
    by_cases hk : k ≤ 0
    ·rw [decide_eq_true hk, cond_true] at h
     exact .inl ⟨hk, h⟩
    ·rw [decide_eq_false hk, cond_false] at h
     exact .inr ⟨Int.not_le.1 hk, h⟩
   ·cases h
 obtain ⟨J, hJ⟩ : ∃ J : Nat → World → Prop, J = fun (k : Nat) (W : World) => ∃ (m' : Nat) (st' : St) (gk : Gh) (mm : Md), iter m' FF st' = some r ∧ st'.get p0 = .v (.int .i64) mm ((k : Nat) : Int) ∧ Inv W1 mu1 (clrL WS st').get (Vals a) (· < st'.c) W gk := ⟨_, rfl⟩
 have hJfr : ∀ k W, J k W → Fr W1 mu1 W := fun k W hj => by
  rw [hJ] at hj
  obtain ⟨_, _, _, _, _, _, hi⟩ := hj
  exact hi.fr
 have hcW : ∀ s, s ∉ WS → s ≠ p0 ∧ s ≠ p1 ∧ s ∉ wrC ca ++ wrC cb := fun s hs => by
  rw [hWS] at hs
  simp only [List.mem_cons, not_or] at hs
  exact hs
 have hp0S : p0 ∈ WS := by rw [hWS]; simp
 have hp1S : p1 ∈ WS := by rw [hWS]; simp
 have htS : t ∉ WS := by rw [hWS]; exact htW
 -- the start
 have hJ0 : J (List.length x) W1 := by
  have hIp := put_free hI (by omega : p0 < a.tmps.size) (hnf p0 hp0N) (VR_of_int .i64 ((List.length x : Nat) : Int)) trivial rfl
  have hAp : At w (muR gh mu fun _ => none) N (st.set p0 (.v (.int .i64) (.bor false true) ((List.length x : Nat) : Int))) (a.put (some p0) (.int .i64 (List.length x : Nat))) w :=
   ⟨⟨gh, rebase hIp (NonC.refl _) (fun s hs => hs) _⟩, by simp [Act.put, hNt], hA.defers, fun _ _ h => by cases h⟩
  obtain ⟨_, h1, hA1⟩ := norm_sound h hAp
  obtain ⟨gN, hIN⟩ := hA1.inv
  obtain ⟨m'', mm, k, hm', hg0, _⟩ := hround _ _ h1
  have hk : k = ((List.length x : Nat) : Int) := by
   have h2 := hIN.slots p0
   rw [hg0] at h2
   have h3 := SlotR_i64 h2
   rw [Vals_put (by omega), if_pos rfl] at h3
   injection h3 with _ h4
   exact h4.symm
  rw [hJ]
  refine ⟨n, _, gN, mm, h1, by rw [hg0, hk], ?_⟩
  have h2 := clr_inv hIN WS (val' := Vals a) fun s hs => by
   rw [Vals_put (by omega), if_neg (hcW s hs).1]
  have h3 := Inv_alloc (Inv_alloc h2 (.deferred (some []))) (.loop (rec .ready))
  rw [hW1] at h3
  refine Inv_non h3 (NonC.refl _) (fun b k hb => ?_) (Fr.refl _ _) (fun s hs => by rw [hmu1] at hs; exact hs) (fun b hb => ?_)
  ·obtain ⟨h4, h5⟩ := hIN.cols b k hb
   rcases h5 with h5 | h5 | h5
   ·exact .inl h5
   ·omega
   ·exact .inr (.inr (by rw [hmu1]; exact h5))
  ·rw [hmu1] at hb
   exact hIN.lk b hb
 refine ⟨lp, [coll w.heap.size], W1, { target := .fn (.func g0) #[.pointer (some ⟨blk0, off0, none⟩)], args := #[.func (.yield lp) #[] #[]] }, W1, g0, #[.func (.yield lp) #[] #[], .pointer (some ⟨blk0, off0, none⟩)], W1, ?_, ?_, fun _ _ => trivial, ?_, fun h => by simp [fen, Fence.wide] at h, ?_⟩
 ·rw [← hW1, hlp, hrec]
  exact run_enterLoop_outer _ _ _ _ _
 ·have : (Act.wd (Ds.map coll) a).eval (.tmp t) = .func (.func g0) #[] #[.pointer (some ⟨blk0, off0, none⟩)] := hval
  simp only [resolve, rangeCall, this, Deferred.ofValue, pure_bind, Sem.run_pure]
  rw [show (#[Operand.const (Value.func (Fn.yield lp) #[] #[])].map (Act.wd (Ds.map coll) a).eval) = #[Value.func (Fn.yield lp) #[] #[]] by simp [Act.eval]]
  simp
 ·exact enter_run hFn _ _ _
 ·refine (gen_calls q1 q2 q3 q4 hTM q5 (l := lp) (ad := adx) (n := List.length x) (cap := cap) (Nat.le_trans hlim (by decide)) J vs (fun k W hj => hloadS W (hJfr k W hj)) (fun k W hj hk => ?_) (fun k W hj hk => ?_) hJ0).mono ?_
  ·obtain ⟨blk, off, d1, d2, d3, _, d5, _⟩ := hvs k hk
   exact ⟨blk, off, d1, d5 W (((hJfr _ W hj).old blk (by omega) (hshn d3)).trans (hold1 _ d2))⟩
  ·-- one round
   obtain ⟨blk, off, d1, d2, d3, d4, _, d6⟩ := hvs k hk
   have hfW := hJfr _ W hj
   obtain ⟨hb0, hlW, hDW⟩ := hfrR W hfW
   rw [hJ] at hj
   obtain ⟨m', st', gk, mm, e1, e2, hIk⟩ := hj
   obtain ⟨m'', mm', k', hm', hg0, hor⟩ := hround _ _ e1
   rw [e2] at hg0
   injection hg0 with _ _ hkk
   subst hkk
   rcases hor with ⟨hle, _⟩ | ⟨_, hba⟩
   ·exfalso
    have : ((k + 1 : Nat) : Int) ≤ 0 := hle
    omega
   obtain ⟨g1, e', m1, x', S', hst', hbk', hty', hin⟩ := backArg_some hba
   -- the same walk
   have hVt' : VR W gk (clrL WS st').get (.clo g1 [.rop (.sl e') m1 x']) (Vals a t) := by
    have := hIk.slots t
    rw [clrL_get, if_neg htS, hst'] at this
    exact this
   obtain ⟨pv', hval', hWk'⟩ := walks_of (P := P) S hVt'
   rw [hval] at hval'
   injection hval' with hfe _ hce
   injection hfe with hge
   subst hge
   have hpv : pv' = .pointer (some ⟨blk0, off0, none⟩) := by
    have := congrArg (fun z => z.getD 0 undef) hce
    simpa using this.symm
   subst hpv
   rw [hbk] at hbk'
   injection hbk' with hbk'
   injection hbk' with hSS
   subst hSS
   rw [hty] at hty'
   injection hty' with hty'
   injection hty' with hee
   subst hee
   obtain ⟨ad0', adx', cap', w1, _, _, _, w5, _, w7⟩ := hWk'.at'
   injection w1 with w1
   injection w1 with w1
   subst w1
   rw [hslice W hfW] at w5
   injection w5 with w5
   injection w5 with w5 w6 w8
   subst w5
   have hx' : List.length x' = List.length x := w6.symm
   have hk2 : (((k + 1 : Nat) : Int) - 1) = ((k : Nat) : Int) := by omega
   rw [hk2] at hin
   have hinb : inb ((k : Nat) : Int) (List.length x') = true := by rw [hx']; simp [inb]; omega
   rw [hinb, cond_true] at hin
   have hto : ((k : Nat) : Int).toNat = k := by simp
   rw [hto] at hin
   -- the elements
   have hRO : RO W gk.col m1.lent? e (fun j => W.cell? ⟨blk, off + k * sz e + j, none⟩) 0 (List.getD x' k (dflt e)) := by
    rw [d1] at w7
    rcases w7 with w7 | ⟨_, _, _, w7⟩
    ·omega
    ·exact w7 k (by omega)
   have hblkW : W.heap[blk]? = w.heap[blk]? := (hfW.old blk (by omega) (hshn d3)).trans (hold1 _ d2)
   obtain ⟨aR, haR⟩ : ∃ aR : Act, aR = (a.put (some p0) (.int .i64 k)).put (some p1) (vs k) := ⟨_, rfl⟩
   have hsR : aR.tmps.size = N := by rw [haR]; simp [Act.put, hNt]
   have hVR : ∀ s, Vals aR s = if s = p1 then vs k else if s = p0 then .int .i64 k else Vals a s := fun s => by
    rw [haR, Vals_put (by simp [Act.put]; omega), Vals_put (by omega)]
   have hIr : Inv W1 mu1 (((clrL WS st').set p0 (.v (.int .i64) (.bor false true) ((k : Nat) : Int))).set p1 (.v e (.bor m1.lent? false) (List.getD x' k (dflt e)))).get (Vals aR) (· < st'.c) W gk := by
    have hfm : ∀ s, s < N → ¬ mu1.far s := fun s hs hf => hnf s hs (by rw [hmu1] at hf; exact hf)
    have h1 := put_free hIk (by omega : p0 < a.tmps.size) (hfm p0 hp0N) (VR_of_int .i64 ((k : Nat) : Int)) trivial rfl
    rw [haR]
    refine put_free h1 (by simp [Act.put]; omega) (hfm p1 hp1N) ?_ trivial rfl
    exact ⟨rfl, d4, RO_RR (g := gk) (s := 0) e [] _ (vs k).cells 0 _ hRO fun j hj => by
     have := d6 j hj
     simp only [Nat.zero_add] at this ⊢
     rw [this, cell?_congr hblkW]⟩
   obtain ⟨pinR, hpinR⟩ : ∃ pinR : Nat → Option Value, pinR = fun s => if s ∈ ioR N ca cb then some (Vals aR s) else none := ⟨_, rfl⟩
   have hfar1 : ∀ s, mu1.far s ↔ lentC.1 ≤ s := fun s => by rw [hmu1]; exact hfar s
   have hAR : At W (muR gk mu1 pinR) N _ aR W := ⟨⟨gk, (rebase hIr (NonC.refl _) (fun s hs => hs) pinR).monoU (U' := (· < (((clrL WS st').set p0 (.v (.int .i64) (.bor false true) ((k : Nat) : Int))).set p1 (.v e (.bor m1.lent? false) (List.getD x' k (dflt e)))).c)) fun u hu => by rw [c_set, c_set, clrL_c]; exact hu⟩, hsR, by rw [haR]; exact hA.defers, fun s v hv => by
    have hv : pinR s = some v := hv
    rw [hpinR] at hv
    simp only at hv
    split at hv
    ·simpa using hv
    ·cases hv⟩
   have hpinI : ∀ s, (muR gk mu1 pinR).pin s ≠ none → s ∈ ioR N ca cb := fun s hs => by
    have hs : pinR s ≠ none := hs
    rw [hpinR] at hs
    simp only at hs
    split at hs
    ·assumption
    ·exact absurd rfl hs
   have htm : (ps.zip #[Value.int .i64 (k : Nat), vs k]).foldl (fun tmps (t, a) => tmps.setIfInBounds t a) a.tmps = aR.tmps := by
    rw [hpsA, haR]; simp [Act.put]
   have hyield : (Instr.yield lp #[Value.int .i64 (k : Nat), vs k]).run P W = .ok (.round lp fn aR.tmps ca cb) W := by
    have := run_yield (P := P) (args := #[Value.int .i64 (k : Nat), vs k]) hlW (by rw [hrec, hpsA]; rfl)
    rw [this]
    subst hrec
    rw [← htm]
   refine ⟨fn, aR.tmps, ca, cb, hyield, roundIn_of_wpIn (F := fen none) hfn ?_⟩
   have haw : ({ tmps := aR.tmps, defers := [] } : Act) = Act.wd (([] : List Nat).map coll) aR := by
    have : aR.defers = [] := by rw [haR]; exact hA.defers
    simp [Act.wd, this]
   rw [haw]
   show ca.wpIn (fen (some lp)) 0 P _ _ _
   refine iha (some lp) (ioR N ca cb) W (muR gk mu1 pinR) [] b _ _ _ _ _ aR W hfar1 hpinI hca (.inr hna) hin hAR (fun wA muA DsA st2 a2 w2 hLA hst2 hA2 => ?_) (fun _ _ _ _ _ _ _ _ hx => by cases hx) (fun _ _ _ _ _ _ _ hx => by cases hx)
   -- the round begins
   have hlA : ¬ (muR gk mu1 pinR) lp := fun ⟨kk, h1, h2⟩ => by
    rcases (hIk.cols lp kk h1).2 with h3 | h3 | h3
    ·exact h2 h3
    ·omega
    ·exact hnot1 lp (.inl (hgnew _ (by omega))) h3
   have hlpW : lp < W.heap.size := (Array.getElem?_eq_some_iff.1 hlW).1
   obtain ⟨g2, hI2⟩ := hA2.inv
   have hf2 : Fr W (muR gk mu1 pinR) w2 := hLA.frw hI2.fr
   have hl2 : w2.heap[lp]? = some (.loop (rec .ready)) := (hf2.old lp hlpW hlA).trans hlW
   refine ⟨w2.putObj lp (.loop { rec .ready with state := .busy }), run_beginRound hl2 (by rw [hrec]), ?_⟩
   have hbusy : ({ rec .ready with state := .busy } : Loop) = rec .busy := by rw [hrec]
   rw [hbusy]
   obtain ⟨w3, hw3⟩ : ∃ w3, w3 = w2.putObj lp (.loop (rec .busy)) := ⟨_, rfl⟩
   rw [← hw3]
   have hn3 : NonC w2 w3 := by rw [hw3]; exact NonC.putObj hl2 rfl rfl (fun _ _ h => by cases h) (fun _ _ _ _ h => by cases h)
   have hlp2 : lp < w2.heap.size := (Array.getElem?_eq_some_iff.1 hl2).1
   have hl3 : w3.heap[lp]? = some (.loop (rec .busy)) := by rw [hw3]; exact World.putObj_heap_same hlp2
   have hfarA : ∀ s, muA.far s ↔ lentC.1 ≤ s := fun s => (hLA.far s).trans (hfar1 s)
   have hA3 : At w3 (muR g2 muA muA.pin) N st2 a2 w3 := ⟨⟨g2, rebase hI2 hn3 (fun s hs => hs) _⟩, hA2.size, hA2.defers, hA2.pin⟩
   have hown2 : ∀ b, (muR g2 muA muA.pin) b → W1.heap.size ≤ b ∨ mu1 b := fun b ⟨kk, h1, h2⟩ => by
    rcases (hI2.cols b kk h1).2 with h3 | h3 | h3
    ·exact absurd h3 h2
    ·exact .inl (Nat.le_trans (Nat.le_trans hfW.size hLA.fr.size) h3)
    ·rcases hLA.own b h3 with h4 | ⟨kk', h4, h5⟩
     ·exact .inl (Nat.le_trans hfW.size h4)
     ·rcases (hIk.cols b kk' h4).2 with h6 | h6 | h6
      ·exact absurd h6 h5
      ·exact .inl h6
      ·exact .inr h6
   have hownA : ∀ b, (muR gk mu1 pinR) b → W1.heap.size ≤ b ∨ mu1 b := fun b ⟨kk', h4, h5⟩ => by
    rcases (hIk.cols b kk' h4).2 with h6 | h6 | h6
    ·exact absurd h6 h5
    ·exact .inl h6
    ·exact .inr h6
   have hl2o : ¬ (muR g2 muA muA.pin) lp := fun h1 => (hown2 lp h1).elim (fun h2 => by omega) (hnot1 lp (.inl (hgnew _ (by omega))))
   show cb.wpIn (fen (some lp)) 0 P _ _ _
   refine ihb (some lp) (ioR N ca cb) w3 (muR g2 muA muA.pin) (DsA ++ []) b _ _ _ _ _ a2 w3 hfarA (fun s hs => hpinI s (by rw [← hLA.pin]; exact hs)) hcb (.inr hnb) hst2 hA3 (fun wB muB DsB st4 a4 w4 hLB hst4 hA4 => ?_) (fun _ _ _ _ _ _ _ _ hx => by cases hx) (fun _ _ _ _ _ _ _ hx => by cases hx)
   -- the round ends
   obtain ⟨_, h5, hA5⟩ := norm_sound hst4 hA4
   obtain ⟨g4, hI4⟩ := hA5.inv
   have hf4 : Fr w3 (muR g2 muA muA.pin) w4 := hLB.frw hI4.fr
   have hlp3 : lp < w3.heap.size := (Array.getElem?_eq_some_iff.1 hl3).1
   have hl4 : w4.heap[lp]? = some (.loop (rec .busy)) := (hf4.old lp hlp3 hl2o).trans hl3
   have hend := run_endRound (P := P) none hl4
   refine ⟨_, _, hend, rfl, ?_⟩
   have hrdy : ({ rec .busy with state := if (none : Option Code).isNone then .ready else .done, pending := none } : Loop) = rec .ready := by rw [hrec]; rfl
   rw [hrdy]
   obtain ⟨w5, hw5⟩ : ∃ w5, w5 = w4.putObj lp (.loop (rec .ready)) := ⟨_, rfl⟩
   rw [← hw5]
   have hlp4 : lp < w4.heap.size := (Array.getElem?_eq_some_iff.1 hl4).1
   have hn5 : NonC w4 w5 := by rw [hw5]; exact NonC.putObj hl4 rfl rfl (fun _ _ h => by cases h) (fun _ _ _ _ h => by cases h)
   have hpinE : ∀ s, s ∉ wrC ca ++ wrC cb → s < N → Vals a4 s = Vals aR s := fun s hs hsN => by
    refine hA5.pin s _ ?_
    rw [hLB.pin, show (muR g2 muA muA.pin).pin = muA.pin from rfl, hLA.pin]
    show pinR s = _
    rw [hpinR]
    simp only
    rw [if_pos]
    unfold ioR
    rw [List.mem_filter]
    refine ⟨List.mem_range.2 hsN, ?_⟩
    cases hmb : memB s (wrC ca ++ wrC cb) with
    | false => rfl
    | true => exact absurd (memB_iff.1 hmb) hs
   obtain ⟨m3, mm3, k3, hm3, hg3, _⟩ := hround _ _ h5
   have hk3 : k3 = ((k : Nat) : Int) := by
    have h6 := hI4.slots p0
    rw [hg3] at h6
    have h7 := SlotR_i64 h6
    rw [hpinE p0 hp0W hp0N, hVR, if_neg hpne, if_pos rfl] at h7
    injection h7 with _ h8
    exact h8.symm
   rw [hJ]
   refine ⟨_, _, g4, mm3, h5, by rw [hg3, hk3], ?_⟩
   have h6 := clr_inv hI4 WS (val' := Vals a) fun s hs => by
    obtain ⟨u1, u2, u3⟩ := hcW s hs
    by_cases hsN : s < N
    ·rw [hpinE s u3 hsN, hVR, if_neg u2, if_neg u1]
    ·rw [Vals_out hNt (by omega), Vals_out hA5.size (by omega)]
   refine Inv_non h6 hn5 (fun b kk hb => ?_) ⟨?_, ?_, ?_, ?_, fun b hb hm => ?_⟩ (fun s hs => ?_) (fun b hb => ?_)
   ·rcases (hI4.cols b kk hb).2 with h7 | h7 | h7
    ·exact .inl h7
    ·exact .inr (.inl (Nat.le_trans (Nat.le_trans (Nat.le_trans hfW.size hf2.size) (by rw [hn3.size]; exact Nat.le_refl _)) (Nat.le_trans hLB.fr.size h7)))
    ·rcases hLB.own b h7 with h8 | h8
     ·exact .inr (.inl (Nat.le_trans (Nat.le_trans hfW.size hf2.size) (by rw [← hn3.size]; exact h8)))
     ·exact .inr (hown2 b h8)
   ·rw [hw5]; exact hf4.os.trans (by rw [hw3]; exact hf2.os.trans hfW.os)
   ·rw [hw5]; exact hf4.tape.trans (by rw [hw3]; exact hf2.tape.trans hfW.tape)
   ·rw [hw5]; exact hf4.output.trans (by rw [hw3]; exact hf2.output.trans hfW.output)
   ·rw [hn5.size]; exact Nat.le_trans (Nat.le_trans hfW.size hf2.size) (by rw [← hn3.size]; exact hf4.size)
   ·by_cases hbl : b = lp
    ·subst hbl
     rw [hw5, World.putObj_heap_same hlp4, hl1]
    ·rw [hw5, World.putObj_heap_other hbl, hf4.old b (by rw [hn3.size]; exact Nat.lt_of_lt_of_le hb (Nat.le_trans hfW.size hf2.size)) (fun h7 => (hown2 b h7).elim (fun h8 => by omega) hm), hw3, World.putObj_heap_other hbl,
      hf2.old b (Nat.lt_of_lt_of_le hb hfW.size) (fun h7 => (hownA b h7).elim (fun h8 => by omega) hm), hfW.old b hb hm]
   ·exact (hLB.far s).2 ((hLA.far s).2 hs)
   ·exact hI4.lk b (hLB.lk b (hI2.lk b (hLA.lk b (hIk.lk b hb))))
  ·-- behind all rounds
   rintro e2 W2 ⟨⟨v, rfl⟩, hj⟩
   have hfW := hJfr _ W2 hj
   obtain ⟨_, hlW, hDW⟩ := hfrR W2 hfW
   rw [hJ] at hj
   obtain ⟨m', st', gk, mm, e1, e2, hIk⟩ := hj
   obtain ⟨m'', mm', k', hm', hg0, hor⟩ := hround _ _ e1
   rw [e2] at hg0
   injection hg0 with _ _ hkk
   subst hkk
   have hlpW : lp < W2.heap.size := (Array.getElem?_eq_some_iff.1 hlW).1
   rcases hor with ⟨_, hKr⟩ | ⟨hle, _⟩
   ·have hendL := run_endLoop (P := P) hlW (by rw [hrec]; simp)
    refine ⟨none, W2.putObj lp (.loop { rec .ready with state := .exhausted }), by rw [hrec] at hendL ⊢; exact hendL, ?_⟩
    obtain ⟨w4, hw4⟩ : ∃ w4, w4 = W2.putObj lp (.loop { rec .ready with state := .exhausted }) := ⟨_, rfl⟩
    rw [← hw4]
    have hn4 : NonC W2 w4 := by rw [hw4]; exact NonC.putObj hlW rfl rfl (fun _ _ h => by cases h) (fun _ _ _ _ h => by cases h)
    have hownE : ∀ b, (muR gk mu1 mu.pin) b → W1.heap.size ≤ b ∨ mu1 b := fun b ⟨kk', h4, h5⟩ => by
     rcases (hIk.cols b kk' h4).2 with h6 | h6 | h6
     ·exact absurd h6 h5
     ·exact .inl h6
     ·exact .inr h6
    have hmu1o : ∀ b, mu1 b → w0.heap.size ≤ b ∨ mu b := fun b hb => by
     rw [hmu1] at hb
     obtain ⟨kk, h1, h2⟩ := hb
     rcases (hI.cols b kk h1).2 with h3 | h3
     ·exact absurd h3 h2
     ·exact h3
    have hL : Later w0 mu w4 (muR gk mu1 mu.pin) [w.heap.size] := by
     refine ⟨⟨?_, ?_, ?_, ?_, fun b hb hm => ?_⟩, fun b hb => ?_, fun b hb => ?_, fun s => by rw [hmu1]; exact Iff.rfl, rfl, fun D hD => ?_, by simp⟩
     ·rw [hw4]; exact hfW.os.trans (by rw [← hW1]; exact hI.fr.os)
     ·rw [hw4]; exact hfW.tape.trans (by rw [← hW1]; exact hI.fr.tape)
     ·rw [hw4]; exact hfW.output.trans (by rw [← hW1]; exact hI.fr.output)
     ·rw [hn4.size]; have := hI.fr.size; have := hfW.size; omega
     ·have hbw : b < w.heap.size := Nat.lt_of_lt_of_le hb hI.fr.size
      rw [hw4, World.putObj_heap_other (by omega), hfW.old b (by omega) (fun h1 => (hmu1o b h1).elim (fun h2 => by omega) hm), hold1 b hbw, hI.fr.old b hb hm]
     ·rcases hownE b hb with h1 | h1
      ·have := hI.fr.size; exact .inl (by omega)
      ·exact hmu1o b h1
     ·show gk.col b = some lentC
      refine hIk.lk b ?_
      rw [hmu1]
      exact hI.lk b hb
     ·simp only [List.mem_singleton] at hD
      subst hD
      refine ⟨hI.fr.size, by rw [hn4.size]; have := hfW.size; omega, fun h1 => (hownE _ h1).elim (fun h2 => by omega) (hnot1 _ (.inl (hgnew _ (Nat.le_refl _)))), ?_⟩
      rw [hw4, World.putObj_heap_other (by omega)]
      exact hDW
    have hAE : At w4 (muR gk mu1 mu.pin) N (clrL WS st') a w4 :=
     ⟨⟨gk, (rebase hIk hn4 (fun s hs => hs) mu.pin).monoU (U' := (· < (clrL WS st').c)) fun u hu => by rw [clrL_c]; exact hu⟩, hNt, hA.defers, hA.pin⟩
    have hact : ({ Act.wd (Ds.map coll) a with defers := [coll w.heap.size] ++ (Act.wd (Ds.map coll) a).defers } : Act) = Act.wd (([w.heap.size] ++ Ds).map coll) a := by
     simp [Act.wd, hA.defers]
    show Q .normal ({ Act.wd (Ds.map coll) a with defers := [coll w.heap.size] ++ (Act.wd (Ds.map coll) a).defers } : Act) w4
    rw [hact]
    exact hK w4 _ _ _ a w4 hL hKr hAE
   ·exact absurd hle (by show ¬ (0 : Int) < ((0 : Nat) : Int); omega)

theorem code_ok (hE : EnvOK P T Φ) {N : Nat} (hN : N ≤ lentC.1) (hsc : ∀ id, T.sc id = none) (hD : DrawAll P T Φ N) {keep : Nat → List Nat} {n : Nat} : ∀ c, CodeOK P T Φ N keep n R r c := by
 intro c
 induction c with
 | rangeFunc f ps ca cb iha ihb => exact range_ok hE hN iha ihb
 | skip => intro ro io w0 mu Ds b K Kx Kr Q st a w hfar hp hc hro h hA hK _ _; exact wpIn_skip (hK w0 mu [] st a w (Later.refl _ _) h hA)
 | exit id => intro ro io w0 mu Ds b K Kx Kr Q st a w hfar hp hc hro h hA _ hKx _; exact wpIn_exit (hKx w0 mu [] id st a w (Later.refl _ _) h hA)
 | ret => intro ro io w0 mu Ds b K Kx Kr Q st a w hfar hp hc hro h hA _ _ hKr; exact wpIn_ret (hKr w0 mu [] st a w (Later.refl _ _) h hA)
 | region id os d =>
  intro ro io w0 mu Ds b K Kx Kr Q st a w hfar hp hc hro h hA hK _ _
  simp only [code, hsc] at h
  simp only [codeB, Bool.and_eq_true] at hc
  have hnd : ∀ o ∈ os.toList, notDefer o = true := fun o ho => List.all_eq_true.1 hc.2 o ho
  have hQQ : ∀ e a' w', (e = Exit.normal ∧ ∃ st', K st' = some r ∧ At w0 mu N st' a' w') → Q e (Act.wd (Ds.map coll) a') w' := by
   rintro e a' w' ⟨rfl, st', h1, h2⟩
   exact hK w0 mu [] st' a' w' (Later.refl _ _) h1 h2
  have hQ : ∀ (a' : Act) (w' : World), ¬ (Exit.outgrown = Exit.normal ∧ ∃ st', K st' = some r ∧ At w0 mu N st' a' w') := fun a' w' h => by cases h.1
  cases d with
  | false =>
   exact region_in (Q := fun e a' w' => e = Exit.normal ∧ ∃ st', K st' = some r ∧ At w0 mu N st' a' w') hQ hQQ hnd
    (ops_sound hE hfar hN (dstB_ok (N := N) hp hc.1.1) (fun st' a' w' h1 h2 => ⟨rfl, st', h1, h2⟩) os.toList st a w (dstB_ok (N := N) hp hc.1.1) h hA)
  | true =>
   exact region_draw_in (Q := fun e a' w' => e = Exit.normal ∧ ∃ st', K st' = some r ∧ At w0 mu N st' a' w') hQ hQQ hnd
    (hD w0 mu io hfar hp id os K r (fun e a' w' => e = Exit.normal ∧ ∃ st', K st' = some r ∧ At w0 mu N st' a' w') st a w hc.1.1 hc.1.2 h hA (fun st' a' w' h1 h2 => ⟨rfl, st', h1, h2⟩))
 | seq x y ihx ihy =>
  intro ro io w0 mu Ds b K Kx Kr Q st a w hfar hp hc hro h hA hK hKx hKr
  simp only [codeB, Bool.and_eq_true] at hc
  have hr2 : (ro = none ∨ noRF x = true) ∧ (ro = none ∨ noRF y = true) := by
   rcases hro with h1 | h1
   ·exact ⟨.inl h1, .inl h1⟩
   ·simp only [noRF, Bool.and_eq_true] at h1; exact ⟨.inr h1.1, .inr h1.2⟩
  exact wpIn_seq (ihx ro io w0 mu Ds b _ Kx Kr _ st a w hfar hp hc.1 hr2.1 h hA
   (fun w1 mu1 Ds1 st1 a1 w1' hL h1 hA1 => ihy ro io w1 mu1 (Ds1 ++ Ds) b K Kx Kr Q st1 a1 w1' (fun s => (hL.far s).trans (hfar s)) (fun s hs => hp s (by rw [← hL.pin]; exact hs)) hc.2 hr2.2 h1 hA1
    (fun w2 mu2 Ds2 st2 a2 w2' hL2 h2 hA2 => by rw [← List.append_assoc]; exact hK w2 mu2 (Ds2 ++ Ds1) st2 a2 w2' (hL.trans hL2) h2 hA2)
    (fun w2 mu2 Ds2 i st2 a2 w2' hL2 h2 hA2 => by rw [← List.append_assoc]; exact hKx w2 mu2 (Ds2 ++ Ds1) i st2 a2 w2' (hL.trans hL2) h2 hA2)
    (fun w2 mu2 Ds2 st2 a2 w2' hL2 h2 hA2 => by rw [← List.append_assoc]; exact hKr w2 mu2 (Ds2 ++ Ds1) st2 a2 w2' (hL.trans hL2) h2 hA2))
   (fun w1 mu1 Ds1 i st1 a1 w1' hL h1 hA1 => hKx w1 mu1 Ds1 i st1 a1 w1' hL h1 hA1)
   (fun w1 mu1 Ds1 st1 a1 w1' hL h1 hA1 => hKr w1 mu1 Ds1 st1 a1 w1' hL h1 hA1))
 | cond c x y ihx ihy =>
  intro ro io w0 mu Ds b K Kx Kr Q st a w hfar hp hc hro h hA hK hKx hKr
  simp only [codeB, Bool.and_eq_true] at hc
  have hr2 : (ro = none ∨ noRF x = true) ∧ (ro = none ∨ noRF y = true) := by
   rcases hro with h1 | h1
   ·exact ⟨.inl h1, .inl h1⟩
   ·simp only [noRF, Bool.and_eq_true] at h1; exact ⟨.inr h1.1, .inr h1.2⟩
  simp only [code] at h
  obtain ⟨g, hI⟩ := hA.inv
  obtain ⟨av, h1, hv, _, _⟩ := opd_sound hI h
  obtain ⟨t, h2, hv⟩ := asBool_sound h1 hv
  clear h h1
  have hset : ∀ s, c = .tmp s → At w0 mu N (st.set s (.v .bool (.bor false true) t)) a w := by
   intro s hs
   subst hs
   refine ⟨⟨g, ?_⟩, hA.size, hA.defers, hA.pin⟩
   by_cases hin : s < a.tmps.size
   ·have hval : Vals a s = .bool t := hv
    have hfs : ¬ mu.far s := by
     have h8 := hA.size
     intro hf
     have h9 := (hfar s).1 hf
     rw [h8] at hin
     exact Nat.lt_irrefl _ (Nat.lt_of_lt_of_le hin (Nat.le_trans hN h9))
    have h3 := put_free hI hin hfs (av := .v .bool (.bor false true) t) (v := Vals a s) (by rw [hval]; exact VR_of_bool t) trivial rfl
    refine Inv_congr h3 (fun _ => rfl) (fun u => ?_)
    rw [Vals_put hin]
    split
    ·rename_i hu; rw [hu]
    ·rfl
   ·have hval : a.eval (.tmp s) = undef := by
     simp [Act.eval, Array.getD_eq_getD_getElem?, hin]
    rw [hval] at hv
    cases hv
  have hv' : (Act.wd (Ds.map coll) a).eval c = .bool t := hv
  cases c with
  | tmp s =>
   simp only at h2
   cases t with
   | true => exact wpIn_cond_true hv' (ihx ro io w0 mu Ds b K Kx Kr Q _ a w hfar hp hc.1 hr2.1 h2 (hset s rfl) hK hKx hKr)
   | false => exact wpIn_cond_false hv' (ihy ro io w0 mu Ds b K Kx Kr Q _ a w hfar hp hc.2 hr2.2 h2 (hset s rfl) hK hKx hKr)
  | _ =>
   cases t with
   | true => exact wpIn_cond_true hv' (ihx ro io w0 mu Ds b K Kx Kr Q _ a w hfar hp hc.1 hr2.1 h2 hA hK hKx hKr)
   | false => exact wpIn_cond_false hv' (ihy ro io w0 mu Ds b K Kx Kr Q _ a w hfar hp hc.2 hr2.2 h2 hA hK hKx hKr)
 | block id c ih =>
  intro ro io w0 mu Ds b K Kx Kr Q st a w hfar hp hc hro h hA hK hKx hKr
  refine wpIn_block (ih ro io w0 mu Ds id K _ Kr _ st a w hfar hp hc hro h hA (fun w1 mu1 Ds1 st a w hL h hA => hK w1 mu1 Ds1 st a w hL h hA) (fun w1 mu1 Ds1 i st a w hL h hA => ?_) (fun w1 mu1 Ds1 st a w hL h hA => hKr w1 mu1 Ds1 st a w hL h hA))
  simp only [Exit.inBlock]
  split at h
  ·rename_i hi
   have := Nat.eq_of_beq_eq_true hi
   rw [if_pos this]; exact hK w1 mu1 Ds1 st a w hL h hA
  ·rename_i hi
   rw [if_neg (fun h => by subst h; simp [Nat.beq_refl] at hi)]; exact hKx w1 mu1 Ds1 i st a w hL h hA
 | loop c ih =>
  intro ro io w0 mu Ds b K Kx Kr Q st a w hfar hp hc hro h hA hK hKx hKr
  simp only [code] at h
  have key : ∀ (m : Nat) (w1 : World) (mu1 : Mu) (Ds1 : List Nat) (st : St) (a : Act) (w : World), Later w0 mu w1 mu1 Ds1 → iter m (fun G st => code T Φ (fun _ F => iter n F) keep b c (fun st => norm (keep b) st G) Kx Kr st) st = some r → At w1 mu1 N st a w →
    Code.roundsIn (fen ro) 0 P c Q m (Act.wd ((Ds1 ++ Ds).map coll) a) w := by
   intro m
   induction m with
   | zero => intro w1 mu1 Ds1 st a w _ h _; cases h
   | succ m ihm =>
    intro w1 mu1 Ds1 st a w hL h hA
    rw [roundsIn_succ]
    exact ih ro io w1 mu1 (Ds1 ++ Ds) b _ Kx Kr _ st a w (fun s => (hL.far s).trans (hfar s)) (fun s hs => hp s (by rw [← hL.pin]; exact hs)) hc hro h hA
     (fun w2 mu2 Ds2 st2 a2 w2' hL2 h2 hA2 => by
      obtain ⟨_, h3, hA3⟩ := norm_sound h2 hA2
      rw [← List.append_assoc]
      exact ihm w2 mu2 (Ds2 ++ Ds1) _ a2 w2' (hL.trans hL2) h3 hA3)
     (fun w2 mu2 Ds2 i st2 a2 w2' hL2 h2 hA2 => by rw [← List.append_assoc]; exact hKx w2 mu2 (Ds2 ++ Ds1) i st2 a2 w2' (hL.trans hL2) h2 hA2)
     (fun w2 mu2 Ds2 st2 a2 w2' hL2 h2 hA2 => by rw [← List.append_assoc]; exact hKr w2 mu2 (Ds2 ++ Ds1) st2 a2 w2' (hL.trans hL2) h2 hA2)
  split at h
  ·obtain ⟨_, h1, hA1⟩ := norm_sound h hA
   exact wpIn_loop_rounds n (key n w0 mu [] _ a w (Later.refl _ _) h1 hA1)
  ·refine wpIn_loop_rounds (n + 1) ?_
   rw [roundsIn_succ]
   exact ih ro io w0 mu Ds b _ Kx Kr _ st a w hfar hp hc hro h hA
    (fun w2 mu2 Ds2 st2 a2 w2' hL2 h2 hA2 => by
     obtain ⟨_, h3, hA3⟩ := norm_sound h2 hA2
     exact key n w2 mu2 Ds2 _ a2 w2' hL2 h3 hA3)
    (fun w2 mu2 Ds2 i st2 a2 w2' hL2 h2 hA2 => hKx w2 mu2 Ds2 i st2 a2 w2' hL2 h2 hA2)
    (fun w2 mu2 Ds2 st2 a2 w2' hL2 h2 hA2 => hKr w2 mu2 Ds2 st2 a2 w2' hL2 h2 hA2)
 | _ => intro ro io w0 mu Ds b K Kx Kr Q st a w _ _ _ _ h; cases h

/-- marks that are come to at the end -/
theorem marks_leave {F : Fence} {n : Nat} {fn : Func} {tmps : Array Value} {Rr : Ending → World → Prop} : ∀ (Ds : List Nat) (w : World), Ds.Nodup → (∀ D ∈ Ds, w.heap[D]? = some (.deferred (some []))) →
  (∀ w', NonC w w' → (∀ b, b ∉ Ds → w'.heap[b]? = w.heap[b]?) → w'.os = w.os → w'.tape = w.tape → w'.output = w.output → LeavesInM F n P fn tmps Rr [] .returning w') → LeavesInM F n P fn tmps Rr (Ds.map coll) .returning w
 | [], w, _, _, h => h w (NonC.refl _) (fun _ _ => rfl) rfl rfl rfl
 | D :: Ds, w, hnd, hD, h => by
  have hd := hD D (by simp)
  obtain ⟨hn1, hn2⟩ := List.nodup_cons.1 hnd
  refine ⟨(fun h => by cases h), Or.inl ⟨D, w.putObj D (.deferred none), rfl, run_takeDeferred hd, ?_⟩⟩
  have hnc : NonC w (w.putObj D (.deferred none)) := NonC.putObj hd rfl rfl (fun _ _ h => by cases h) (fun _ _ _ _ h => by cases h)
  refine marks_leave Ds _ hn2 (fun D' hD' => ?_) fun w' h1 h2 h3 h4 h5 => h w' (hnc.trans h1) (fun b hb => ?_) h3 h4 h5
  ·rw [World.putObj_heap_other (show D' ≠ D from fun he => hn1 (he ▸ hD'))]
   exact hD D' (by simp [hD'])
  ·simp only [List.mem_cons, not_or] at hb
   rw [h2 b hb.2, World.putObj_heap_other hb.1]
end
end Go.Ab
