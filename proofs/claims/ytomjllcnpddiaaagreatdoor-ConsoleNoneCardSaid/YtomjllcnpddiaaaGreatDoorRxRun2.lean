/- The evaluator is sound: code. -/
import Derived.Test.YtomjllcnpddiaaaGreatDoorRxRun
set_option linter.unusedSimpArgs false
set_option linter.unusedVariables false
set_option linter.unusedSectionVars false
namespace Go.Rx
open Go

section
variable {P : Program} {E : Env} {G : Nat} {ρ : Ren} {s s' : St} {w w1 w2 : World} {tm : List Value} {rec : Rec}

theorem rf_apply {b : Frame} {a : Act} {k : List Item} {cs : List Frame} {f : Operand} {params : Array Tmp} {assign body : Code} {l : Nat} {mark : List Deferred}
    (henter : (Instr.enterLoop b.fn a.tmps params assign body b.roundOf).run P w = .ok (l, mark) w1) :
    (stepG P true { frame := b.atR a (.code (.rangeFunc f params assign body) :: k), callers := cs, status := .running, dying := none } w).bare =
      (stepG.apply P true (b.atR { a with defers := mark ++ a.defers } (.inRangeFunc l :: k)) cs none (do let d ← Deferred.ofValue (a.eval f) #[.func (.yield l) #[] #[]]; invoke d.target d.args) w1).bare := by
  have he := Frame.eval_atR b { a with defers := mark ++ a.defers } (.inRangeFunc l :: k)
  simp only [Frame.atR] at he
  simp only [stepG, stepG.exec, Frame.atR, Sem.runT_eq, henter, GStep.bare_after]
  have heq : Act.eval { a with defers := mark ++ a.defers } = a.eval := by funext x; cases x <;> rfl
  congr 2
  unfold resolve
  simp only [he, heq]
  have hm : Array.map a.eval #[Operand.const (Value.func (Fn.yield l) #[] #[])] = #[Value.func (Fn.yield l) #[] #[]] := by simp [Act.eval]
  rw [hm]

/-- Round the call of a range function. -/
theorem rf_sound (hE : E.Ok P) (hrec : RecOk P G rec) (hr : Rep G ρ s w1) {b : Frame} {a : Act} {k : List Item} {cs : List Frame} {f : Operand} {params : Array Tmp} {assign body : Code} {l : Nat} {mark : List Deferred}
    (henter : (Instr.enterLoop b.fn a.tmps params assign body b.roundOf).run P w = .ok (l, mark) w1) {g : Value} (hg : VR ρ g (a.eval f)) {L : Nat} {vL : View} (hL : ρ L = some vL) (hl : vL.blk = l) {who : Who}
    (hwho : whoOf g [.func (.yield L) #[] #[]] = some who) {v : Value} (hc : callA E rec s who = some (v, s')) :
    ∃ w' ρ' lg, Steps P (lone (b.atR a (.code (.rangeFunc f params assign body) :: k)) cs w) (lone (b.atR { a with defers := mark ++ a.defers } (.endRangeFunc l :: k)) cs w') ∧ Rep G ρ' s' w' ∧ Ext ρ s w1 ρ' s' w' lg := by
  have hstep := rf_apply (P := P) (w := w) (w1 := w1) (b := b) (a := a) (k := k) (cs := cs) (f := f) henter
  have hargs : VL ρ [.func (.yield L) #[] #[]] [.func (.yield vL.blk) #[] #[]] := .cons (.yield hL) .nil
  subst hl
  have hfin : ∀ v, (b.atR { a with defers := mark ++ a.defers } (.inRangeFunc vL.blk :: k)).finish v = b.atR { a with defers := mark ++ a.defers } (.endRangeFunc vL.blk :: k) := fun _ => rfl
  rcases call_sound hE hrec hr hwho hc hg hargs with ⟨n, v', ρ', w', lg, h1, h2, h3, h4, h5⟩ | ⟨fn, as', h1, h2⟩ | ⟨L2, fn, tmps, as, bd, h1, h2⟩
  · refine ⟨w', ρ', lg, .one (step_lone_go ?_), h4, h5⟩
    rw [hstep]
    simp only [stepG.apply, Sem.runT_eq, if_true, GStep.bare_after]
    have h1' : (do let d ← Deferred.ofValue (a.eval f) #[.func (.yield vL.blk) #[] #[]]; invoke d.target d.args : Sem Next).run P w1 = .ok n w' := h1
    rw [h1']
    unfold nextVal at h2
    split at h2
    · cases h2; rfl
    · cases h2; rfl
    · cases h2
  · have h1' : (do let d ← Deferred.ofValue (a.eval f) #[.func (.yield vL.blk) #[] #[]]; invoke d.target d.args : Sem Next).run P w1 = .ok (.enter fn as') w1 := h1
    obtain ⟨e, w', fr, ⟨v', ρ', lg, h3, h4, h5, h6⟩, h7, h8, h9⟩ := h2 (b.atR { a with defers := mark ++ a.defers } (.inRangeFunc vL.blk :: k) :: cs)
    subst h3
    have hs := step_leave_returned (c := b.atR { a with defers := mark ++ a.defers } (.inRangeFunc vL.blk :: k)) (cs := cs) h9
    rw [hfin] at hs
    refine ⟨w', ρ', lg, Steps.head (step_lone_go ?_) (Steps.trans h7 (.one hs)), h5, h6⟩
    rw [hstep]
    simp only [stepG.apply, Sem.runT_eq, if_true, GStep.bare_after]
    rw [h1']
    rfl
  · have h1' : (do let d ← Deferred.ofValue (a.eval f) #[.func (.yield vL.blk) #[] #[]]; invoke d.target d.args : Sem Next).run P w1 = .ok (.round L2 fn tmps as bd) w1 := h1
    obtain ⟨v', w', ρ', lg, h3, h4, h5, h6⟩ := h2 (b.atR { a with defers := mark ++ a.defers } (.inRangeFunc vL.blk :: k)) cs
    rw [hfin] at h6
    refine ⟨w', ρ', lg, Steps.head (step_lone_go ?_) h6, h4, h5⟩
    rw [hstep]
    simp only [stepG.apply, Sem.runT_eq, if_true, GStep.bare_after]
    rw [h1']
    rfl

theorem step_endRange {b : Frame} {a : Act} {k : List Item} {cs : List Frame} {l : Nat} {jump : Option Code} (hrun : (Instr.endLoop l).run P w = .ok jump w1) :
    step P (lone (b.atR a (.endRangeFunc l :: k)) cs w) = .next (lone (b.atR a ((jump.map Item.code).toList ++ k)) cs w1) :=
  step_lone_go (by simp [stepG, stepG.exec, Frame.atR, hrun])

theorem Arr.of_steps {m m1 : Machine} {b : Frame} {k : List Item} {cs : List Frame} {a : Act} {o : Out} (h : Steps P m m1) (h' : Arr P m1 b k cs a w o) : Arr P m b k cs a w o := by
  cases o with
  | normal => exact h.trans h'
  | exit id => obtain ⟨k1, h1, h2⟩ := h'; exact ⟨k1, h1, h.trans h2⟩
  | ret => obtain ⟨k1, h2⟩ := h'; exact ⟨k1, h.trans h2⟩
  | val v => exact h'
/-- Past what is no block. -/
theorem Arr.pass {m : Machine} {b : Frame} {x : Item} {k : List Item} {cs : List Frame} {a : Act} {o : Out} (hx : ∀ id, exitTo id (x :: k) = exitTo id k) (ho : o ≠ .normal) (h : Arr P m b (x :: k) cs a w o) : Arr P m b k cs a w o := by
  cases o with
  | normal => exact absurd rfl ho
  | exit id => obtain ⟨k1, h1, h2⟩ := h; exact ⟨k1, by rw [h1, hx], h2⟩
  | ret => exact h
  | val v => exact h

/-- A run that goes on has made its first step. -/
theorem Steps.behind {m m1 m' : Machine} (h : Steps P m m') (hne : m ≠ m') (hs : step P m = .next m1) : Steps P m1 m' := by
  obtain ⟨n, hn⟩ := h
  cases n with
  | zero => simp [runN] at hn; exact absurd hn hne
  | succ n =>
    simp only [runN, hs] at hn
    exact ⟨n, hn⟩
theorem lone_todo {fr fr' : Frame} {cs cs' : List Frame} {w w' : World} (h : lone fr cs w = lone fr' cs' w') : fr.todo = fr'.todo := by
  have h1 : (lone fr cs w).gs = (lone fr' cs' w').gs := by rw [h]
  simp [lone] at h1
  rw [h1.1]
/-- A loop's next round begins as its first. -/
theorem Arr.again {b : Frame} {a0 : Act} {c : Code} {k : List Item} {cs : List Frame} {w0 : World} {a : Act} {o : Out} (h : Arr P (lone (b.atR a0 (.code (.loop c) :: k)) cs w0) b k cs a w o) :
    Arr P (lone (b.atR a0 (.inLoop c :: k)) cs w0) b k cs a w o := by
  have key : ∀ (fr' : Frame) (w' : World), (∀ x, fr'.todo ≠ .code (.loop x) :: k) → Steps P (lone (b.atR a0 (.code (.loop c) :: k)) cs w0) (lone fr' cs w') → Steps P (lone (b.atR a0 (.inLoop c :: k)) cs w0) (lone fr' cs w') := by
    intro fr' w' hne hs
    refine Steps.head stepR_inLoop (Steps.behind hs (fun he => hne c ?_) stepR_loop)
    exact (lone_todo he).symm
  cases o with
  | normal =>
    refine key _ _ (fun x hx => ?_) h
    have : k.length = (Item.code (.loop x) :: k).length := congrArg List.length hx
    simp at this
  | exit id =>
    obtain ⟨k1, h1, h2⟩ := h
    refine ⟨k1, h1, key _ _ (fun x hx => ?_) h2⟩
    have hx' : Item.code (.exit id) :: k1 = Item.code (.loop x) :: k := hx
    simp at hx'
  | ret =>
    obtain ⟨k1, h2⟩ := h
    refine ⟨k1, key _ _ (fun x hx => ?_) h2⟩
    have hx' : Item.code .ret :: k1 = Item.code (.loop x) :: k := hx
    simp at hx'
  | val v => exact h

theorem enterLoop_sound (hr : Rep G ρ s w) {round : Option Nat} {b : Frame} {a : Act} {params : Array Tmp} {assign body : Code} (hv : VL ρ tm a.tmps.toList) (hro : RO ρ round b.roundOf) {m : Nat × List Deferred × St} (h : loopMark round s = some m) :
    ∃ l mark w1 ρ1 lg vL, (Instr.enterLoop b.fn a.tmps params assign body b.roundOf).run P w = .ok (l, mark) w1 ∧ ρ1 m.2.2.next = some vL ∧ vL.blk = l ∧ DL ρ1 m.2.1 mark ∧
      Rep G ρ1 (m.2.2.new (.loop { state := .ready, pending := none, fn := b.fn, tmps := ⟨tm⟩, params, assign, body, defers := m.1 })) w1 ∧
      Ext ρ s w ρ1 (m.2.2.new (.loop { state := .ready, pending := none, fn := b.fn, tmps := ⟨tm⟩, params, assign, body, defers := m.1 })) w1 lg := by
  unfold loopMark at h
  split at h
  · rename_i l
    rw [ob_eq_some] at h
    obtain ⟨r, hl, h⟩ := h
    cases h
    generalize hb : b.roundOf = ro at hro
    cases hro with
    | some hρ =>
      rename_i v
      obtain ⟨hg, r', hw, hlr⟩ := loopAt_sound hr hl hρ
      obtain ⟨vd, hd1, hd2⟩ := hlr.defers
      have hf := hr.fresh s.next (Nat.le_refl _)
      obtain ⟨k1, k2⟩ := hr.new (e := .loop { state := .ready, pending := none, fn := b.fn, tmps := ⟨tm⟩, params, assign, body, defers := r.defers })
        (o := .loop { state := .ready, pending := none, fn := b.fn, tmps := a.tmps, params, assign, body, defers := r'.defers }) (v := ⟨w.heap.size, 0, 0⟩) rfl
        (.loop ⟨rfl, rfl, rfl, hv.mono (Ren.sub_set hf), rfl, rfl, rfl, vd, Ren.sub_set hf _ _ hd1, hd2⟩)
      refine ⟨w.heap.size, [], _, _, _, ⟨w.heap.size, 0, 0⟩, ?_, Ren.set_same _ _ _, rfl, .nil, k1, k2⟩
      simp [Instr.enterLoop, run_getLoop (P := P) hw]
  · cases h
    generalize hb : b.roundOf = ro at hro
    cases hro with
    | none =>
      have hf := hr.fresh s.next (Nat.le_refl _)
      obtain ⟨k1, k2⟩ := hr.new (e := .deferred (some [])) (o := .deferred (some [])) (v := ⟨w.heap.size, 0, 0⟩) rfl (.deferred (.inr rfl))
      have hf2 := k1.fresh (s.new (.deferred (some []))).next (Nat.le_refl _)
      have hs1 := Ren.sub_set (ρ := ρ) (v := ⟨w.heap.size, 0, 0⟩) hf
      have hs2 := Ren.sub_set (v := ⟨(w.alloc (.deferred (some []))).heap.size, 0, 0⟩) hf2
      obtain ⟨k3, k4⟩ := k1.new (e := .loop { state := .ready, pending := none, fn := b.fn, tmps := ⟨tm⟩, params, assign, body, defers := s.next })
        (o := .loop { state := .ready, pending := none, fn := b.fn, tmps := a.tmps, params, assign, body, defers := w.heap.size }) (v := ⟨(w.alloc (.deferred (some []))).heap.size, 0, 0⟩) rfl
        (.loop ⟨rfl, rfl, rfl, (hv.mono hs1).mono hs2, rfl, rfl, rfl, ⟨w.heap.size, 0, 0⟩, hs2 _ _ (Ren.set_same _ _ _), rfl⟩)
      refine ⟨(w.alloc (.deferred (some []))).heap.size, [{ target := .collected w.heap.size, args := #[] }], _, _, _, ⟨(w.alloc (.deferred (some []))).heap.size, 0, 0⟩, ?_, Ren.set_same _ _ _, rfl, ?_, k3, k2.trans k4⟩
      · simp [Instr.enterLoop]
      · have := DL.cons (ρ := (ρ.set s.next ⟨w.heap.size, 0, 0⟩).set (s.new (.deferred (some []))).next ⟨(w.alloc (.deferred (some []))).heap.size, 0, 0⟩) (b := s.next) (v := ⟨w.heap.size, 0, 0⟩) (hs2 _ _ (Ren.set_same _ _ _)) .nil
        exact this

set_option maxHeartbeats 1000000 in
theorem code_ok (hE : E.Ok P) (hng : E.ng ≤ G) (hrec : RecOk P G rec) : CodeOk P G (Rx.F P E rec) := by
  intro c fr s r h ρ b a k cs w hfn hv hd hro hr
  have opd := eval_opd hE hr hng hv
  cases c with
  | skip =>
    cases h
    exact ⟨a, w, ρ, [], .one stepR_skip, hv, hd, hr, .refl _ _ _⟩
  | label l =>
    cases h
    exact ⟨a, w, ρ, [], .one stepR_label, hv, hd, hr, .refl _ _ _⟩
  | region id ops draw =>
    cases draw with
    | true =>
      have h' : chk (tmpsOk ops.toList) (ob (drawOps P E rec ops.toList (masks [] ops.toList) ops.toList [] fr.tm s) fun r => some (⟨.normal, r.1, fr.df, r.2⟩ : R)) = some r := h
      rw [chk_eq_some] at h'
      obtain ⟨h1, h'⟩ := h'
      rw [ob_eq_some] at h'
      obtain ⟨⟨tm', s'⟩, h2, h3⟩ := h'
      cases h3
      obtain ⟨a', w', ρ', l, g1, g2, g3, g4, g5⟩ := draw_sound hE hng hrec hr h1 h2 (w.tape w.drawn (.order b.fn id)) hv (w.drawn + 1) b k cs
      have hs := stepR_region_draw (P := P) (b := b) (a := a) (k := k) (cs := cs) (w := w) (ops := ops) (id := id)
      rw [hE.mixed] at hs
      refine ⟨a', w', ρ', l, Steps.head hs (g1.trans (.one stepR_region_end)), g3, ?_, g4, g5⟩
      rw [g2]
      exact hd.mono (g5.sub hr.fresh)
    | false =>
      have h' : (ob (seqOps P E rec ops.toList ops.toList fr.tm s) fun r => some (⟨.normal, r.1, fr.df, r.2⟩ : R)) = some r := h
      rw [ob_eq_some] at h'
      obtain ⟨⟨tm', s'⟩, h2, h3⟩ := h'
      cases h3
      obtain ⟨a', w', ρ', l, g1, g2, g3, g4, g5⟩ := seq_sound hE hng hrec (b := b) (ops := ops) (k := k) (cs := cs) ops.toList 0 fr.tm tm' ρ s s' w a rfl h2 hv hr
      have hs := stepR_region (P := P) (b := b) (a := a) (k := k) (cs := cs) (w := w) (ops := ops) (id := id)
      rw [List.range_eq_range'] at hs
      rw [Array.length_toList] at g1
      refine ⟨a', w', ρ', l, Steps.head hs (g1.trans (.one stepR_region_end)), g3, ?_, g4, g5⟩
      rw [g2]
      exact hd.mono (g5.sub hr.fresh)
  | seq c1 c2 =>
    have h' : (ob (rec (.code c1 fr) s) fun r => match r.out with
        | .normal => rec (.code c2 ⟨fr.fn, r.tm, r.df, fr.round⟩) r.s
        | _ => some r) = some r := h
    rw [ob_eq_some] at h'
    obtain ⟨r1, hr1, h'⟩ := h'
    obtain ⟨a1, w1, ρ1, l1, g1, g2, g3, g4, g5⟩ := hrec.code c1 fr s r1 hr1 ρ b a (.code c2 :: k) cs w hfn hv hd hro hr
    have g1 := Arr.of_steps (.one stepR_seq) g1
    split at h'
    · rename_i ho
      rw [ho] at g1
      obtain ⟨a2, w2, ρ2, l2, k1, k2, k3, k4, k5⟩ := hrec.code c2 _ _ r h' ρ1 b a1 k cs w1 hfn g2 g3 (hro.mono (g5.sub hr.fresh)) g4
      exact ⟨a2, w2, ρ2, _, Arr.of_steps g1 k1, k2, k3, k4, g5.trans k5⟩
    · rename_i ho
      cases h'
      exact ⟨a1, w1, ρ1, l1, g1.pass (fun id => rfl) (fun h => ho h), g2, g3, g4, g5⟩
  | cond x c1 c2 =>
    have h' : (ob (ev E fr.tm x) fun v => match v with
      | .bool c => rec (.code (sel c c1 c2) fr) s
      | _ => none) = some r := h
    rw [ob_eq_some] at h'
    obtain ⟨v, hx, h'⟩ := h'
    split at h'
    · rename_i t
      have hvr := opd [x] x (by simp) _ hx
      have hev : a.eval x = .bool t := by generalize a.eval x = u at hvr; cases hvr; rfl
      obtain ⟨a', w', ρ', l, g1, g2⟩ := hrec.code _ fr s r h' ρ b a k cs w hfn hv hd hro hr
      refine ⟨a', w', ρ', l, Arr.of_steps (.one (stepR_cond hev)) ?_, g2⟩
      cases t <;> exact g1
    · cases h'
  | block id c1 =>
    have h' : (ob (rec (.code c1 fr) s) fun r => match r.out with
      | .exit i => some (⟨sel (Nat.beq i id) .normal (.exit i), r.tm, r.df, r.s⟩ : R)
      | _ => some r) = some r := h
    rw [ob_eq_some] at h'
    obtain ⟨r1, hr1, h'⟩ := h'
    obtain ⟨a1, w1, ρ1, l1, g1, g2, g3, g4, g5⟩ := hrec.code c1 fr s r1 hr1 ρ b a (.inBlock id :: k) cs w hfn hv hd hro hr
    have g1 := Arr.of_steps (.one stepR_block) g1
    split at h'
    · rename_i i ho
      cases h'
      rw [ho] at g1
      obtain ⟨k1, g6, g7⟩ := g1
      refine ⟨a1, w1, ρ1, l1, ?_, g2, g3, g4, g5⟩
      by_cases hid : i = id
      · subst hid
        simp only [beq_of rfl, sel_true]
        refine g7.trans (.one (stepR_exit ?_))
        rw [g6]
        simp [exitTo]
      · simp only [beq_ne hid, sel_false]
        refine ⟨k1, ?_, g7⟩
        rw [g6]
        have : (id == i) = false := by simp; exact fun h => hid h.symm
        simp [exitTo, this]
    · rename_i ho
      cases h'
      refine ⟨a1, w1, ρ1, l1, ?_, g2, g3, g4, g5⟩
      cases hout : r.out with
      | normal =>
        rw [hout] at g1
        exact Steps.trans g1 (.one stepR_inBlock)
      | exit i => exact absurd hout (ho i)
      | ret => rw [hout] at g1; exact g1
      | val v => rw [hout] at g1; exact g1
  | loop c1 =>
    have h' : (ob (rec (.code c1 fr) s) fun r => match r.out with
      | .normal => rec (.code (.loop c1) ⟨fr.fn, r.tm, r.df, fr.round⟩) r.s
      | _ => some r) = some r := h
    rw [ob_eq_some] at h'
    obtain ⟨r1, hr1, h'⟩ := h'
    obtain ⟨a1, w1, ρ1, l1, g1, g2, g3, g4, g5⟩ := hrec.code c1 fr s r1 hr1 ρ b a (.inLoop c1 :: k) cs w hfn hv hd hro hr
    have g1 := Arr.of_steps (.one stepR_loop) g1
    split at h'
    · rename_i ho
      rw [ho] at g1
      obtain ⟨a2, w2, ρ2, l2, k1, k2, k3, k4, k5⟩ := hrec.code (.loop c1) _ _ r h' ρ1 b a1 k cs w1 hfn g2 g3 (hro.mono (g5.sub hr.fresh)) g4
      exact ⟨a2, w2, ρ2, _, Arr.of_steps g1 k1.again, k2, k3, k4, g5.trans k5⟩
    · rename_i ho
      cases h'
      exact ⟨a1, w1, ρ1, l1, g1.pass (fun id => rfl) (fun h => ho h), g2, g3, g4, g5⟩
  | exit id =>
    cases h
    exact ⟨a, w, ρ, [], ⟨k, rfl, .refl _ _⟩, hv, hd, hr, .refl _ _ _⟩
  | ret =>
    cases h
    exact ⟨a, w, ρ, [], ⟨k, .refl _ _⟩, hv, hd, hr, .refl _ _ _⟩
  | rangeFunc f params assign body =>
    have h' : (ob (ev E fr.tm f) fun g => ob (loopMark fr.round s) fun m =>
        ob (whoOf g [.func (.yield m.2.2.next) #[] #[]]) fun who => match who with
        | .yield _ _ => none
        | .func _ _ =>
          ob (callA E rec (m.2.2.new (.loop { state := .ready, pending := none, fn := fr.fn, tmps := ⟨fr.tm⟩, params, assign, body, defers := m.1 })) who) fun r =>
            ob (r.2.loopAt m.2.2.next) fun l => chk (!isBusy l.state)
              (match l.pending with
              | none => some (⟨.normal, fr.tm, appn m.2.1 fr.df, r.2.put m.2.2.next (some (.loop { l with state := .exhausted }))⟩ : R)
              | some c => rec (.code c ⟨fr.fn, fr.tm, appn m.2.1 fr.df, fr.round⟩) (r.2.put m.2.2.next (some (.loop { l with state := .exhausted }))))) = some r := h
    rw [ob_eq_some] at h'
    obtain ⟨g, hg, h'⟩ := h'
    rw [ob_eq_some] at h'
    obtain ⟨m, hm, h'⟩ := h'
    rw [ob_eq_some] at h'
    obtain ⟨who, hwho, h'⟩ := h'
    split at h'
    · cases h'
    · rename_i g0 as0
      rw [ob_eq_some] at h'
      obtain ⟨⟨v, s2⟩, hcall, h'⟩ := h'
      rw [ob_eq_some] at h'
      obtain ⟨l, hl, h'⟩ := h'
      rw [chk_eq_some] at h'
      obtain ⟨hbusy, h'⟩ := h'
      have hvr := opd [f] f (by simp) _ hg
      obtain ⟨L, mark, w1, ρ1, lg, vL, e1, e2, e3, e4, e5, e6⟩ := enterLoop_sound (P := P) (b := b) (a := a) (params := params) (assign := assign) (body := body) hr hv hro hm
      rw [hfn] at e5 e6
      have hs1 := e6.sub hr.fresh
      obtain ⟨w2, ρ2, lg2, f1, f2, f3⟩ := rf_sound hE hrec e5 (k := k) (cs := cs) e1 (hvr.mono hs1) e2 e3 hwho hcall
      have hs2 := f3.sub e5.fresh
      have hL2 := hs2 _ _ e2
      obtain ⟨hg2, l', hw2, hlr⟩ := loopAt_sound f2 hl hL2
      obtain ⟨hset, hrep3, hext3⟩ := put_loop (P := P) (r2 := { l with state := .exhausted }) (r2' := { l' with state := .exhausted }) f2 hg2 hL2 hw2 ⟨rfl, hlr.pending, hlr.fn, hlr.tmps, hlr.params, hlr.assign, hlr.body, hlr.defers⟩
      have hnb : (l'.state == .busy) = false := by
        rw [hlr.state]
        unfold isBusy at hbusy
        cases hst : l.state <;> simp [hst] at hbusy ⊢
      have hendl : (Instr.endLoop vL.blk).run P w2 = .ok l'.pending { w2 with heap := w2.heap.setIfInBounds vL.blk (.loop { l' with state := .exhausted }) } := by
        simp only [Instr.endLoop, Sem.run_bind, run_getLoop (P := P) hw2, Result.andThen_ok, hnb, hset, Sem.run_pure, Sem.run_ite]
        rfl
      rw [← e3] at f1
      have hend := step_endRange (P := P) (b := b) (a := { a with defers := mark ++ a.defers }) (k := k) (cs := cs) hendl
      have hsteps := f1.trans (.one hend)
      have hdl : DL ρ2 (appn m.2.1 fr.df) (mark ++ a.defers) := by
        rw [appn_eq]
        exact (e4.mono hs2).append ((hd.mono hs1).mono hs2)
      have hv2 : VL ρ2 fr.tm a.tmps.toList := (hv.mono hs1).mono hs2
      have hpend := hlr.pending
      generalize ({ w2 with heap := w2.heap.setIfInBounds vL.blk (.loop { l' with state := .exhausted }) } : World) = w3 at hsteps hrep3 hext3
      rw [hpend] at hsteps
      split at h'
      · rename_i hp
        cases h'
        rw [hp] at hsteps
        exact ⟨{ a with defers := mark ++ a.defers }, _, ρ2, _, hsteps, hv2, hdl, hrep3, (e6.trans f3).trans hext3⟩
      · rename_i cp hp
        rw [hp] at hsteps
        obtain ⟨a', w', ρ', l3, k1, k2, k3, k4, k5⟩ := hrec.code cp _ _ r h' ρ2 b { a with defers := mark ++ a.defers } k cs _ hfn hv2 hdl ((hro.mono hs1).mono hs2) hrep3
        exact ⟨a', w', ρ', _, Arr.of_steps hsteps k1, k2, k3, k4, ((e6.trans f3).trans hext3).trans k5⟩
  | scope _ => cases h
  | goto _ => cases h
  | refuse _ => cases h

/-- The evaluator, run so far. -/
theorem run_ok (hE : E.Ok P) (hng : E.ng ≤ G) : ∀ n, RecOk P G (run P E n) := by
  intro n
  induction n with
  | zero =>
    have no : ∀ (t : Task) (s : St) (r : R), run P E 0 t s ≠ some r := fun t s r h => by
      have : (none : Option R) = some r := h
      cases this
    exact ⟨fun c fr s r h => absurd h (no _ _ _), fun f as s r h => absurd h (no _ _ _), fun L as s r h => absurd h (no _ _ _)⟩
  | succ n ih => exact ⟨code_ok hE hng ih, call_ok hE ih, yield_ok ih⟩
end
end Go.Rx
