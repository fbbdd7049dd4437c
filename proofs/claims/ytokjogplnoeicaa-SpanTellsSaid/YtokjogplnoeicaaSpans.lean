/- Spans: from where to where the values of an operation are. -/
import Derived.Test.YtokjogplnoeicaaBlk
import Derived.Test.YtokjogplnoeicaaFnS
namespace Go.Proofs.Ytokjogplnoeicaa
open Go Go.Ab S

abbrev Sp := Int × Int × Unit
variable {nf : Nat} {a b : Sp} {f : Int → Int → Int}

/-- a span -/
def isSp (s : Sp) : Prop := 0 ≤ s.1 ∧ s.1 ≤ s.2.1 ∧ s.2.1 ≤ 255
instance (s : Sp) : Decidable (isSp s) := inferInstanceAs (Decidable (_ ∧ _ ∧ _))
theorem is_F (s : Sp) : span_is_f nf s = some (decide (isSp s), ()) := by
  simp only [span_is_f, span_is_p, isSp]
  by_cases h1 : 0 ≤ s.1 <;> by_cases h2 : s.1 ≤ s.2.1 <;> by_cases h3 : s.2.1 ≤ 255 <;> simp [h1, h2, h3]
theorem isSpan_F (s : Sp) : ref_IsSpan_f nf s = some (decide (isSp s), ()) := by
  simp only [ref_IsSpan_f, ref_IsSpan_p, ref_Value_f, ref_Value_p, isSp]
  by_cases h1 : 0 ≤ s.1
  · by_cases h2 : s.1 ≤ 255
    · by_cases h3 : 0 ≤ s.2.1
      · by_cases h4 : s.2.1 ≤ 255 <;> by_cases h5 : s.1 ≤ s.2.1 <;> simp [h1, h2, h3, h4, h5]
      · have h5 : ¬ s.1 ≤ s.2.1 := by omega
        simp [h1, h2, h3, h5]
    · by_cases h5 : s.1 ≤ s.2.1
      · have h4 : ¬ s.2.1 ≤ 255 := by omega
        simp [h1, h2, h4]
      · simp [h1, h2, h5]
  · simp [h1]

def In (a b : Sp) (x y : Int) : Prop := a.1 ≤ x ∧ x ≤ a.2.1 ∧ b.1 ≤ y ∧ y ≤ b.2.1
/-- the least and the greatest value -/
structure Ext (f : Int → Int → Int) (a b : Sp) (o : Sp) : Prop where
  all : ∀ x y, In a b x y → o.1 ≤ f x y ∧ f x y ≤ o.2.1
  low : ∃ x y, In a b x y ∧ f x y = o.1
  high : ∃ x y, In a b x y ∧ f x y = o.2.1
theorem Ext.eq {o o' : Sp} (h : Ext f a b o) (h' : Ext f a b o') : o.1 = o'.1 ∧ o.2.1 = o'.2.1 := by
  obtain ⟨x, y, h1, h2⟩ := h.low
  obtain ⟨x', y', h3, h4⟩ := h'.low
  obtain ⟨u, v, h5, h6⟩ := h.high
  obtain ⟨u', v', h7, h8⟩ := h'.high
  have := h'.all x y h1
  have := h.all x' y' h3
  have := h'.all u v h5
  have := h.all u' v' h7
  omega

/-- so far -/
structure Far (f : Int → Int → Int) (a b : Sp) (P : Int → Int → Prop) (o : Sp) : Prop where
  sub : ∀ x y, P x y → In a b x y
  all : ∀ x y, P x y → o.1 ≤ f x y ∧ f x y ≤ o.2.1
  low : o.1 = 255 ∨ ∃ x y, P x y ∧ f x y = o.1
  high : o.2.1 = 0 ∨ ∃ x y, P x y ∧ f x y = o.2.1
def upd (v : Int) (o : Sp) : Sp := (if v < o.1 then v else o.1, if v > o.2.1 then v else o.2.1, ())
theorem Far.step {P P' : Int → Int → Prop} {o : Sp} (h : Far f a b P o) {x y : Int} (hxy : In a b x y) (hP : ∀ u v, P' u v ↔ P u v ∨ (u = x ∧ v = y)) : Far f a b P' (upd (f x y) o) := by
  refine ⟨fun u v hp => ?_, fun u v hp => ?_, ?_, ?_⟩
  · rcases (hP u v).1 hp with h1 | ⟨rfl, rfl⟩
    · exact h.sub u v h1
    · exact hxy
  · have h2 : o.1 ≤ f u v ∧ f u v ≤ o.2.1 ∨ f u v = f x y := by
      rcases (hP u v).1 hp with h1 | ⟨rfl, rfl⟩
      · exact .inl (h.all u v h1)
      · exact .inr rfl
    simp only [upd]
    split <;> split <;> omega
  · simp only [upd]
    split
    · exact .inr ⟨x, y, (hP x y).2 (.inr ⟨rfl, rfl⟩), rfl⟩
    · rcases h.low with h1 | ⟨u, v, h1, h2⟩
      · exact .inl h1
      · exact .inr ⟨u, v, (hP u v).2 (.inl h1), h2⟩
  · simp only [upd]
    split
    · exact .inr ⟨x, y, (hP x y).2 (.inr ⟨rfl, rfl⟩), rfl⟩
    · rcases h.high with h1 | ⟨u, v, h1, h2⟩
      · exact .inl h1
      · exact .inr ⟨u, v, (hP u v).2 (.inl h1), h2⟩
theorem Far.stop {P : Int → Int → Prop} {o : Sp} (h : Far f a b P o) (hf : ∀ x y, In a b x y → isV (f x y)) (h0 : o.1 = 0) (h1 : o.2.1 = 255) : Ext f a b o := by
  refine ⟨fun x y hxy => by have := hf x y hxy; unfold isV at this; omega, ?_, ?_⟩
  · rcases h.low with h2 | ⟨u, v, h2, h3⟩
    · omega
    · exact ⟨u, v, h.sub u v h2, h3⟩
  · rcases h.high with h2 | ⟨u, v, h2, h3⟩
    · omega
    · exact ⟨u, v, h.sub u v h2, h3⟩
theorem Far.fin {P : Int → Int → Prop} {o : Sp} (h : Far f a b P o) (hf : ∀ x y, In a b x y → isV (f x y)) (ha : isSp a) (hb : isSp b) (hP : ∀ x y, In a b x y → P x y) : Ext f a b o := by
  obtain ⟨a0, a1, a2⟩ := ha
  obtain ⟨b0, b1, b2⟩ := hb
  have h00 : In a b a.1 b.1 := ⟨Int.le_refl _, a1, Int.le_refl _, b1⟩
  have hv := hf _ _ h00
  have h1 := h.all _ _ (hP _ _ h00)
  unfold isV at hv
  refine ⟨fun x y hxy => h.all x y (hP x y hxy), ?_, ?_⟩
  · rcases h.low with h2 | ⟨u, v, h2, h3⟩
    · exact ⟨a.1, b.1, h00, by omega⟩
    · exact ⟨u, v, h.sub u v h2, h3⟩
  · rcases h.high with h2 | ⟨u, v, h2, h3⟩
    · exact ⟨a.1, b.1, h00, by omega⟩
    · exact ⟨u, v, h.sub u v h2, h3⟩

/-- the pairs ahead of (x, y) -/
def Pre (a b : Sp) (x y u v : Int) : Prop := (a.1 ≤ u ∧ u < x ∧ b.1 ≤ v ∧ v ≤ b.2.1) ∨ (u = x ∧ b.1 ≤ v ∧ v < y)

theorem span_inner {ρ : Type} (hb : isSp b) (hf : ∀ x y, In a b x y → isV (f x y)) {F : Nat → Sp → Int → Option ρ} {x : Int} (hx : a.1 ≤ x ∧ x ≤ a.2.1) {cont : Sp → Option ρ} {stop : Sp → Option ρ}
    (h : ∀ fu o y, b.1 ≤ y → y ≤ b.2.1 → F (fu + 1) o y = if (upd (f x y) o).1 = 0 ∧ (upd (f x y) o).2.1 = 255 then stop (upd (f x y) o) else F fu (upd (f x y) o) (y + 1))
    (h' : ∀ fu o y, y > b.2.1 → F (fu + 1) o y = cont o) :
    ∀ (fu : Nat) (o : Sp) (y : Int), b.1 ≤ y → y ≤ b.2.1 + 1 → b.2.1 + 1 < y + fu → Far f a b (Pre a b x y) o →
      (∃ o', F fu o y = cont o' ∧ Far f a b (Pre a b (x + 1) b.1) o') ∨ (∃ o', F fu o y = stop o' ∧ Ext f a b o')
  | 0, o, y, _, _, _, _ => by omega
  | fu + 1, o, y, y0, y1, hfu, hF => by
    by_cases hy : y ≤ b.2.1
    · have hF' : Far f a b (Pre a b x (y + 1)) (upd (f x y) o) := hF.step ⟨hx.1, hx.2, y0, hy⟩ fun u v => by unfold Pre; omega
      rw [h fu o y y0 hy]
      split
      · rename_i hs
        exact .inr ⟨_, rfl, hF'.stop hf hs.1 hs.2⟩
      · exact span_inner hb hf hx h h' fu _ (y + 1) (by omega) (by omega) (by omega) hF'
    · rw [h' fu o y (by omega)]
      refine .inl ⟨o, rfl, ⟨fun u v hp => ?_, fun u v hp => hF.all u v ?_, ?_, ?_⟩⟩
      · unfold Pre at hp
        unfold In
        omega
      · unfold Pre at hp ⊢
        omega
      · rcases hF.low with h1 | ⟨u, v, h1, h2⟩
        · exact .inl h1
        · exact .inr ⟨u, v, by unfold Pre at h1 ⊢; omega, h2⟩
      · rcases hF.high with h1 | ⟨u, v, h1, h2⟩
        · exact .inl h1
        · exact .inr ⟨u, v, by unfold Pre at h1 ⊢; omega, h2⟩

theorem span_outer {ρ : Type} (ha : isSp a) (hb : isSp b) (hf : ∀ x y, In a b x y → isV (f x y)) {G : Nat → Sp → Int → Option ρ} {stop : Sp → Option ρ}
    (h : ∀ fu o x, a.1 ≤ x → x ≤ a.2.1 → Far f a b (Pre a b x b.1) o → (∃ o', G (fu + 1) o x = G fu o' (x + 1) ∧ Far f a b (Pre a b (x + 1) b.1) o') ∨ (∃ o', G (fu + 1) o x = stop o' ∧ Ext f a b o'))
    (h' : ∀ fu o x, x > a.2.1 → G (fu + 1) o x = stop o) :
    ∀ (fu : Nat) (o : Sp) (x : Int), a.1 ≤ x → x ≤ a.2.1 + 1 → a.2.1 + 1 < x + fu → Far f a b (Pre a b x b.1) o → ∃ o', G fu o x = stop o' ∧ Ext f a b o'
  | 0, o, x, _, _, _, _ => by omega
  | fu + 1, o, x, x0, x1, hfu, hF => by
    by_cases hx : x ≤ a.2.1
    · rcases h fu o x x0 hx hF with ⟨o', h1, h2⟩ | h1
      · rw [h1]
        exact span_outer ha hb hf h h' fu o' (x + 1) (by omega) (by omega) (by omega) h2
      · exact h1
    · rw [h' fu o x (by omega)]
      exact ⟨o, rfl, hF.fin hf ha hb fun u v hp => by unfold In at hp; unfold Pre; omega⟩
theorem far_start : Far f a b (Pre a b a.1 b.1) (255, 0, ()) := by
  refine ⟨fun u v hp => ?_, fun u v hp => ?_, .inl rfl, .inl rfl⟩ <;> (unfold Pre at hp; omega)

theorem wrap1 {y : Int} (h0 : 0 ≤ y) (h1 : y ≤ 255) : IntKind.i64.wrap (y + 1) = y + 1 := wrap_step (n := 256) h0 (by omega) (by decide)
theorem in_V (ha : isSp a) (hb : isSp b) {x y : Int} (h : In a b x y) : isV x ∧ isV y := by
  obtain ⟨a0, a1, a2⟩ := ha
  obtain ⟨b0, b1, b2⟩ := hb
  obtain ⟨h1, h2, h3, h4⟩ := h
  exact ⟨⟨by omega, by omega⟩, ⟨by omega, by omega⟩⟩

theorem times_F (hn : 300 ≤ nf) (ha : isSp a) (hb : isSp b) : ∃ o, span_times_f nf a b = some (o, ()) ∧ Ext (opV 5) a b o := by
  have hf : ∀ x y, In a b x y → isV (opV 5 x y) := fun x y _ => opV_isV 5 x y
  simp only [span_times_f, span_times_p]
  obtain ⟨a0, a1, a2⟩ := id ha
  obtain ⟨b0, b1, b2⟩ := id hb
  exact span_outer (f := opV 5) (G := fun fu o x => span_times_l0 nf a b fu a b (0, 0, ()) o x) (stop := fun o => some (o, ())) ha hb hf
    (fun fu o x x0 x1 hF => by
      have e : span_times_l0 nf a b (fu + 1) a b (0, 0, ()) o x = span_times_l2 nf a b x (fun a2 b2 t4 out x => span_times_l0 nf a b fu a2 b2 t4 out x) nf a b (0, 0, ()) o b.1 := by
        rw [span_times_l0, span_times_b0]
        simp only [x1, decide_true, cond_true]
      rw [e]
      exact span_inner (f := opV 5) (F := fun fu2 o y => span_times_l2 nf a b x (fun a2 b2 t4 out x => span_times_l0 nf a b fu a2 b2 t4 out x) fu2 a b (0, 0, ()) o y) (cont := fun o => span_times_l0 nf a b fu a b (0, 0, ()) o (x + 1)) (stop := fun o => some (o, ())) hb hf ⟨x0, x1⟩
        (fun fu2 o y y0 y1 => by
          rw [span_times_l2, span_times_b2, do_F (show isV x from ⟨by omega, by omega⟩) (show isV y from ⟨by omega, by omega⟩), wrap1 (by omega) (by omega)]
          simp only [y1, decide_true, cond_true, Option.bind_some]
          have eu : upd (opV 5 x y) o = (if opV 5 x y < o.1 then opV 5 x y else o.1, if opV 5 x y > o.2.1 then opV 5 x y else o.2.1, o.2.2) := rfl
          rw [eu]
          generalize (if opV 5 x y < o.1 then opV 5 x y else o.1) = l
          generalize (if opV 5 x y > o.2.1 then opV 5 x y else o.2.1) = h
          by_cases c1 : l = 0
          · by_cases c2 : h = 255
            · simp [c1, c2]
            · simp [c1, c2, beq_f c2]
          · simp [c1, beq_f c1])
        (fun fu2 o y hy => by
          rw [span_times_l2, span_times_b2, wrap1 (y := x) (by omega) (by omega)]
          simp only [show ¬ y ≤ b.2.1 by omega, decide_false, cond_false]) nf o b.1 (Int.le_refl _) (by omega) (by omega) hF)
    (fun fu o x hx => by
      rw [span_times_l0, span_times_b0]
      simp only [show ¬ x ≤ a.2.1 by omega, decide_false, cond_false]) nf (255, 0, ()) a.1 (Int.le_refl _) (by omega) (by omega) far_start

theorem spanDo_F (hn : 300 ≤ nf) {op : Int} (o3 : 3 ≤ op) (o6 : op ≤ 6) (ha : isSp a) (hb : isSp b) : ∃ o, ref_SpanDo_f nf op a b = some (o, ()) ∧ Ext (opV op) a b o := by
  have hf : ∀ x y, In a b x y → isV (opV op x y) := fun x y _ => opV_isV op x y
  simp only [ref_SpanDo_f, ref_SpanDo_p]
  obtain ⟨a0, a1, a2⟩ := id ha
  obtain ⟨b0, b1, b2⟩ := id hb
  exact span_outer (f := opV op) (G := fun fu o x => ref_SpanDo_l0 nf op a b fu a b (0, 0, ()) o x) (stop := fun o => some (o, ())) ha hb hf
    (fun fu o x x0 x1 hF => by
      have e : ref_SpanDo_l0 nf op a b (fu + 1) a b (0, 0, ()) o x = ref_SpanDo_l2 nf op a b x (fun a2 b2 t6 out x => ref_SpanDo_l0 nf op a b fu a2 b2 t6 out x) nf a b (0, 0, ()) o b.1 := by
        rw [ref_SpanDo_l0, ref_SpanDo_b0]
        simp only [x1, decide_true, cond_true]
      rw [e]
      exact span_inner (f := opV op) (F := fun fu2 o y => ref_SpanDo_l2 nf op a b x (fun a2 b2 t6 out x => ref_SpanDo_l0 nf op a b fu a2 b2 t6 out x) fu2 a b (0, 0, ()) o y) (cont := fun o => ref_SpanDo_l0 nf op a b fu a b (0, 0, ()) o (x + 1)) (stop := fun o => some (o, ())) hb hf ⟨x0, x1⟩
        (fun fu2 o y y0 y1 => by
          rw [ref_SpanDo_l2, ref_SpanDo_b2, op_F o3 o6 (show isV x from ⟨by omega, by omega⟩) (show isV y from ⟨by omega, by omega⟩), wrap1 (by omega) (by omega)]
          simp only [y1, decide_true, cond_true, Option.bind_some, upd]
          obtain ⟨l, h, u⟩ := o
          generalize opV op x y = v
          simp only
          by_cases c1 : v < l
          · by_cases c2 : v > h
            · by_cases c3 : v = 0
              · subst c3; simp [c1, c2]
              · simp [c1, c2, c3, beq_f c3]
            · by_cases c3 : v = 0
              · subst c3
                by_cases c4 : h = 255
                · subst c4; simp [c1]
                · simp [c1, c2, c4, beq_f c4]
              · simp [c1, c2, c3, beq_f c3]
          · by_cases c2 : v > h
            · by_cases c3 : l = 0
              · subst c3
                by_cases c4 : v = 255
                · subst c4; simp [c2]
                · simp [c1, c2, c4, beq_f c4]
              · simp [c1, c2, c3, beq_f c3]
            · by_cases c3 : l = 0
              · subst c3
                by_cases c4 : h = 255
                · subst c4; simp [c1, c2]
                · simp [c1, c2, c4, beq_f c4]
              · simp [c1, c2, c3, beq_f c3])
        (fun fu2 o y hy => by
          rw [ref_SpanDo_l2, ref_SpanDo_b2, wrap1 (y := x) (by omega) (by omega)]
          simp only [show ¬ y ≤ b.2.1 by omega, decide_false, cond_false]) nf o b.1 (Int.le_refl _) (by omega) (by omega) hF)
    (fun fu o x hx => by
      rw [ref_SpanDo_l0, ref_SpanDo_b0]
      simp only [show ¬ x ≤ a.2.1 by omega, decide_false, cond_false]) nf (255, 0, ()) a.1 (Int.le_refl _) (by omega) (by omega) far_start

/-- numbers from L to H, modulo 256 -/
theorem wrap_ext {f : Int → Int → Int} {L H : Int} (hLH : L ≤ H) (hL : -1000 ≤ L) (hH : H ≤ 1000) (hto : ∀ x y, In a b x y → ∃ s, L ≤ s ∧ s ≤ H ∧ f x y = s % 256) (hfrom : ∀ s, L ≤ s → s ≤ H → ∃ x y, In a b x y ∧ f x y = s % 256) :
    ∃ o, span_wrap_f nf L H = some (o, ()) ∧ Ext f a b o := by
  simp only [span_wrap_f, span_wrap_p, and255, Go.IntWalk.i64_in (H - L) (by omega)]
  have full : (∃ s, L ≤ s ∧ s ≤ H ∧ s % 256 = 0) → (∃ s, L ≤ s ∧ s ≤ H ∧ s % 256 = 255) → Ext f a b (0, 255, ()) := by
    rintro ⟨s, h1, h2, h3⟩ ⟨t, h4, h5, h6⟩
    refine ⟨fun x y hxy => ?_, ?_, ?_⟩
    · obtain ⟨u, _, _, h7⟩ := hto x y hxy
      simp only [h7]; omega
    · obtain ⟨x, y, h7, h8⟩ := hfrom s h1 h2
      exact ⟨x, y, h7, by rw [h8, h3]⟩
    · obtain ⟨x, y, h7, h8⟩ := hfrom t h4 h5
      exact ⟨x, y, h7, by rw [h8, h6]⟩
  by_cases c1 : H - L ≥ 256
  · refine ⟨_, by simp [c1], full ⟨(L + 255) / 256 * 256, by omega, by omega, by omega⟩ ⟨L / 256 * 256 + 255, by omega, by omega, by omega⟩⟩
  · by_cases c2 : L % 256 > H % 256
    · refine ⟨_, by simp [c1, c2], full ⟨(L / 256 + 1) * 256, by omega, by omega, by omega⟩ ⟨(L / 256 + 1) * 256 - 1, by omega, by omega, by omega⟩⟩
    · refine ⟨(L % 256, H % 256, ()), by simp [c1, c2], fun x y hxy => ?_, ?_, ?_⟩
      · obtain ⟨s, h1, h2, h3⟩ := hto x y hxy
        simp only [h3]; omega
      · exact hfrom L (Int.le_refl _) hLH
      · exact hfrom H hLH (Int.le_refl _)

theorem sdo_F (hn : 300 ≤ nf) {op : Int} (o3 : 3 ≤ op) (o6 : op ≤ 6) (ha : isSp a) (hb : isSp b) : ∃ o, span_do_f nf op a b = some (o, ()) ∧ Ext (opV op) a b o := by
  have hiv := fun {x y : Int} (h : In a b x y) => in_V ha hb h
  obtain ⟨a0, a1, a2⟩ := id ha
  obtain ⟨b0, b1, b2⟩ := id hb
  have hma := mul_small (a := a.2.1) (b := b.2.1) ⟨by omega, a2⟩ ⟨by omega, b2⟩
  have hmi := mul_small (a := a.1) (b := b.1) ⟨a0, by omega⟩ ⟨b0, by omega⟩
  simp only [span_do_f, span_do_p]
  by_cases c3 : op = 3
  · subst c3
    obtain ⟨o, h1, h2⟩ := wrap_ext (nf := nf) (a := a) (b := b) (f := opV 3) (L := a.1 + b.1) (H := a.2.1 + b.2.1) (by omega) (by omega) (by omega) (fun x y h => ⟨x + y, by have := h.1; have := h.2.2.1; omega, by have := h.2.1; have := h.2.2.2; omega, rfl⟩)
      (fun s h1 h2 => by
        by_cases c : s - b.1 ≤ a.2.1
        · exact ⟨s - b.1, b.1, ⟨by omega, c, Int.le_refl _, b1⟩, by show (s - b.1 + b.1) % 256 = _; rw [show s - b.1 + b.1 = s by omega]⟩
        · exact ⟨a.2.1, s - a.2.1, ⟨a1, Int.le_refl _, by omega, by omega⟩, by show (a.2.1 + (s - a.2.1)) % 256 = _; rw [show a.2.1 + (s - a.2.1) = s by omega]⟩)
    refine ⟨o, ?_, h2⟩
    rw [Go.IntWalk.i64_in (a.1 + b.1) (by omega), Go.IntWalk.i64_in (a.2.1 + b.2.1) (by omega), h1]
    rfl
  · by_cases c4 : op = 4
    · subst c4
      obtain ⟨o, h1, h2⟩ := wrap_ext (nf := nf) (a := a) (b := b) (f := opV 4) (L := a.1 - b.2.1) (H := a.2.1 - b.1) (by omega) (by omega) (by omega) (fun x y h => ⟨x - y, by have := h.1; have := h.2.2.2; omega, by have := h.2.1; have := h.2.2.1; omega, rfl⟩)
        (fun s h1 h2 => by
          by_cases c : s + b.2.1 ≤ a.2.1
          · exact ⟨s + b.2.1, b.2.1, ⟨by omega, c, b1, Int.le_refl _⟩, by show (s + b.2.1 - b.2.1) % 256 = _; rw [show s + b.2.1 - b.2.1 = s by omega]⟩
          · exact ⟨a.2.1, a.2.1 - s, ⟨a1, Int.le_refl _, by omega, by omega⟩, by show (a.2.1 - (a.2.1 - s)) % 256 = _; rw [show a.2.1 - (a.2.1 - s) = s by omega]⟩)
      refine ⟨o, ?_, h2⟩
      rw [Go.IntWalk.i64_in (a.1 - b.2.1) (by omega), Go.IntWalk.i64_in (a.2.1 - b.1) (by omega), h1]
      rfl
    · by_cases c5 : op = 5
      · subst c5
        rw [Go.IntWalk.i64_in (a.2.1 * b.2.1) (by omega), Go.IntWalk.i64_in (a.1 * b.1) (by omega)]
        by_cases cm : a.2.1 * b.2.1 < 256
        · refine ⟨(a.1 * b.1, a.2.1 * b.2.1, ()), by simp [cm], fun x y h => ?_, ?_, ?_⟩
          · obtain ⟨hx, hy⟩ := hiv h
            have h1 : a.1 * b.1 ≤ x * y := Int.mul_le_mul h.1 h.2.2.1 b0 hx.1
            have h2 : x * y ≤ a.2.1 * b.2.1 := Int.mul_le_mul h.2.1 h.2.2.2 hy.1 (by omega)
            have h3 : opV 5 x y = (x * y) % 256 := rfl
            rw [h3]
            generalize x * y = z at *
            generalize a.1 * b.1 = p at *
            generalize a.2.1 * b.2.1 = q at *
            simp only
            omega
          · refine ⟨a.1, b.1, ⟨Int.le_refl _, a1, Int.le_refl _, b1⟩, ?_⟩
            have h1 : a.1 * b.1 ≤ a.2.1 * b.2.1 := Int.mul_le_mul a1 b1 b0 (by omega)
            show (a.1 * b.1) % 256 = a.1 * b.1
            generalize a.1 * b.1 = p at *
            generalize a.2.1 * b.2.1 = q at *
            omega
          · refine ⟨a.2.1, b.2.1, ⟨a1, Int.le_refl _, b1, Int.le_refl _⟩, ?_⟩
            show (a.2.1 * b.2.1) % 256 = a.2.1 * b.2.1
            generalize a.2.1 * b.2.1 = q at *
            omega
        · obtain ⟨o, h1, h2⟩ := times_F hn ha hb
          exact ⟨o, by simp [cm, h1], h2⟩
      · have h6 : op = 6 := by omega
        subst h6
        have hv : ∀ x y, opV 6 x y = if x < y then 1 else 0 := fun x y => rfl
        by_cases c1 : a.2.1 < b.1
        · have c2 : ¬ a.1 ≥ b.2.1 := by omega
          refine ⟨(1, 1, ()), by simp [c1, c2], fun x y h => ?_, ⟨a.1, b.1, ⟨Int.le_refl _, a1, Int.le_refl _, b1⟩, ?_⟩, ⟨a.1, b.1, ⟨Int.le_refl _, a1, Int.le_refl _, b1⟩, ?_⟩⟩
          · rw [hv, if_pos (by have := h.2.1; have := h.2.2.1; omega)]; simp
          · rw [hv, if_pos (by omega)]
          · rw [hv, if_pos (by omega)]
        · by_cases c2 : a.1 ≥ b.2.1
          · refine ⟨(0, 0, ()), by simp [c1, c2], fun x y h => ?_, ⟨a.1, b.1, ⟨Int.le_refl _, a1, Int.le_refl _, b1⟩, ?_⟩, ⟨a.1, b.1, ⟨Int.le_refl _, a1, Int.le_refl _, b1⟩, ?_⟩⟩
            · rw [hv, if_neg (by have := h.1; have := h.2.2.2; omega)]; simp
            · rw [hv, if_neg (by omega)]
            · rw [hv, if_neg (by omega)]
          · refine ⟨(0, 1, ()), by simp [c1, c2], fun x y h => ?_, ⟨a.2.1, b.1, ⟨a1, Int.le_refl _, Int.le_refl _, b1⟩, ?_⟩, ⟨a.1, b.2.1, ⟨Int.le_refl _, a1, b1, Int.le_refl _⟩, ?_⟩⟩
            · rw [hv]; split <;> simp
            · rw [hv, if_neg (by omega)]
            · rw [hv, if_pos (by omega)]

end Go.Proofs.Ytokjogplnoeicaa
