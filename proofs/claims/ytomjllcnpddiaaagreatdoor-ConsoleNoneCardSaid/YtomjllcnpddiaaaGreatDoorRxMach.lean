/- The machine: one operation of a region, calls included; a region in the order of the text. -/
import Derived.Test.YtomjllcnpddiaaaGreatDoorRxOps8
import Derived.AtR
set_option linter.unusedSimpArgs false
set_option linter.unusedVariables false
set_option linter.unusedSectionVars false
namespace Go.Rx
open Go

/-- Deferred calls: marks alone. -/
inductive DL (ρ : Ren) : List Deferred → List Deferred → Prop where
  | nil : DL ρ [] []
  | cons {b : Nat} {v : View} {l l' : List Deferred} (h : ρ b = some v) (t : DL ρ l l') : DL ρ ({ target := .collected b, args := #[] } :: l) ({ target := .collected v.blk, args := #[] } :: l')
theorem DL.mono {ρ ρ' : Ren} {l l' : List Deferred} (h : DL ρ l l') (hs : Sub ρ ρ') : DL ρ' l l' := by
  induction h with
  | nil => exact .nil
  | cons h _ ih => exact .cons (hs _ _ h) ih
theorem DL.append {ρ : Ren} {a a' b b' : List Deferred} (h : DL ρ a a') (k : DL ρ b b') : DL ρ (a ++ b) (a' ++ b') := by
  induction h with
  | nil => exact k
  | cons h _ ih => exact .cons h ih
/-- The loop whose round this is. -/
inductive RO (ρ : Ren) : Option Nat → Option Nat → Prop where
  | none : RO ρ none none
  | some {l : Nat} {v : View} (h : ρ l = some v) : RO ρ (some l) (some v.blk)
theorem RO.mono {ρ ρ' : Ren} {a a' : Option Nat} (h : RO ρ a a') (hs : Sub ρ ρ') : RO ρ' a a' := by
  cases h with
  | none => exact .none
  | some h => exact .some (hs _ _ h)

section
variable (P : Program) (G : Nat)

/-- Where a piece of code comes to. -/
def Arr (m : Machine) (b : Frame) (k : List Item) (cs : List Frame) (a : Act) (w : World) : Out → Prop
  | .normal => Steps P m (lone (b.atR a k) cs w)
  | .exit id => ∃ k1, exitTo id k1 = exitTo id k ∧ Steps P m (lone (b.atR a (.code (.exit id) :: k1)) cs w)
  | .ret => ∃ k1, Steps P m (lone (b.atR a (.code .ret :: k1)) cs w)
  | .val _ => False

def CodeOk (rec : Rec) : Prop := ∀ c fr s r, rec (.code c fr) s = some r → ∀ (ρ : Ren) (b : Frame) (a : Act) (k : List Item) (cs : List Frame) (w : World),
  b.fn = fr.fn → VL ρ fr.tm a.tmps.toList → DL ρ fr.df a.defers → RO ρ fr.round b.roundOf → Rep G ρ s w →
  ∃ a' w' ρ' l, Arr P (lone (b.atR a (.code c :: k)) cs w) b k cs a' w' r.out ∧ VL ρ' r.tm a'.tmps.toList ∧ DL ρ' r.df a'.defers ∧ Rep G ρ' r.s w' ∧ Ext ρ s w ρ' r.s w' l

def CallOk (rec : Rec) : Prop := ∀ f args s r, rec (.call f args) s = some r → ∀ (ρ : Ren) (args' : List Value) (w : World), VL ρ args args' → Rep G ρ s w →
  Calls P f ⟨args'⟩ w fun e w' => ∃ v v' ρ' l, r.out = .val v ∧ e = .returned v' ∧ VR ρ' v v' ∧ Rep G ρ' r.s w' ∧ Ext ρ s w ρ' r.s w' l

def YieldOk (rec : Rec) : Prop := ∀ L args s r, rec (.yield L args) s = some r → ∀ (ρ : Ren) (args' : List Value) (vL : View) (w : World), ρ L = some vL → VL ρ args args' → Rep G ρ s w →
  ∃ fn tmps assign body, (Instr.yield vL.blk ⟨args'⟩).run P w = .ok (.round vL.blk fn tmps assign body) w ∧
    ∀ c cs, ∃ v v' w' ρ' l, r.out = .val v ∧ VR ρ' v v' ∧ Rep G ρ' r.s w' ∧ Ext ρ s w ρ' r.s w' l ∧ Steps P (lone (Frame.round vL.blk fn tmps assign body .normal) (c :: cs) w) (lone (c.finish v') cs w')

structure RecOk (rec : Rec) : Prop where
  code : CodeOk P G rec
  call : CallOk P G rec
  yield : YieldOk P G rec
end

section
variable {P : Program} {E : Env} {G : Nat} {ρ : Ren} {s s' : St} {w : World} {tm : List Value} {rec : Rec}

theorem eval_opd (hE : E.Ok P) (hr : Rep G ρ s w) (hng : E.ng ≤ G) {a : Act} (h : VL ρ tm a.tmps.toList) (l : List Operand) : Opd E ρ tm a.eval l := by
  intro x _hx v hv
  clear _hx
  unfold ev at hv
  split at hv
  · rename_i t
    cases hv
    rw [nthD_eq]
    have := h.getD t
    simp only [Act.eval]
    rw [Array.getD_eq_getD_getElem?]
    simpa using this
  · rw [chk_eq_some] at hv
    obtain ⟨h1, h2⟩ := hv
    cases h2
    exact .of_closed h1
  · rename_i g
    rw [chk_eq_some] at hv
    obtain ⟨h1, h2⟩ := hv
    cases h2
    have h1 : g < E.ng := Nat.le_of_ble_eq_true h1
    obtain ⟨u, h3, h4, h5⟩ := hr.glob g (by omega)
    have := VR.ptr (ρ := ρ) (b := g) (off := 0) h3
    rw [h4, h5] at this
    exact this
  · cases hv
    exact .func .nil .nil

theorem wanted_eq {a : Act} {ops : Array Oper} (h : VL ρ tm a.tmps.toList) (o : Oper) : Region.wanted o (yielded ops a.tmps) = wantedA ops.toList tm o.guard := by
  unfold Region.wanted wantedA
  cases o.guard with
  | none => rfl
  | some g =>
    obtain ⟨j, want⟩ := g
    have hy : yielded ops a.tmps j = yieldedA ops.toList tm j := by
      unfold yielded yieldedA
      rw [nth_eq]
      have h1 : ops.toList[j]? = ops[j]? := by simp
      rw [h1]
      cases ops[j]? with
      | none => rfl
      | some o2 =>
        simp only [Option.bind_some, ob_some]
        cases o2.dst with
        | none => rfl
        | some d =>
          simp only [Option.bind_some, ob_some, nth_eq]
          cases hd : tm[d]? with
          | none =>
            have : a.tmps[d]? = none := by
              rw [List.getElem?_eq_none_iff] at hd
              rw [Array.getElem?_eq_none_iff]
              have := h.length
              simp at this
              omega
            rw [this]
          | some v =>
            obtain ⟨v', h2, h3⟩ := h.get hd
            have h2' : a.tmps[d]? = some v' := by simpa using h2
            rw [h2']
            cases h3 <;> rfl
    simp only [hy]
    cases yieldedA ops.toList tm j with
    | none => rfl
    | some b => simp

/-- One operation of a region, made. -/
theorem op_step {b : Frame} {a : Act} {ops : Array Oper} {i : Nat} {rest : List Nat} {k : List Item} {cs : List Frame} {o : Oper} (ho : ops[i]? = some o) (hw : Region.wanted o (yielded ops a.tmps) = true)
    (hnd : ∀ c, o.op ≠ .defer c) {w' : World} {n : Next} {v : Value} (hrun : (execOp a.eval o).run P w = .ok n w') (hn : nextVal n = some v) :
    Steps P (lone (b.atR a (.inRegion ops (i :: rest) :: k)) cs w) (lone (b.atR (a.put o.dst v) (.inRegion ops rest :: k)) cs w') := by
  have hg := stepGR_op (P := P) (b := b) (k := k) (cs := cs) (w := w) (rest := rest) ho hw
  rw [Oper.semAt_eq _ _ _ hnd] at hg
  have hf := Frame.finish_atR b a ops i rest k v
  rw [ho] at hf
  simp only [Option.bind_some] at hf
  refine .one (step_lone_go ?_)
  rw [hg]
  simp only [stepG.apply, Sem.runT_eq, hrun, GStep.bare_after]
  unfold nextVal at hn
  split at hn
  · cases hn; simp [hf]
  · cases hn; simp [hf]
  · cases hn

/-- A call of a function with a body. -/
theorem op_enter {b : Frame} {a : Act} {ops : Array Oper} {i : Nat} {rest : List Nat} {k : List Item} {cs : List Frame} {o : Oper} (ho : ops[i]? = some o) (hw : Region.wanted o (yielded ops a.tmps) = true)
    (hnd : ∀ c, o.op ≠ .defer c) {w' : World} {f : FuncId} {args : Array Value} (hrun : (execOp a.eval o).run P w = .ok (.enter f args) w') :
    Steps P (lone (b.atR a (.inRegion ops (i :: rest) :: k)) cs w) (lone (Frame.enter P f args .normal) (b.atR a (.inRegion ops (i :: rest) :: k) :: cs) w') := by
  have hg := stepGR_op (P := P) (b := b) (k := k) (cs := cs) (w := w) (rest := rest) ho hw
  rw [Oper.semAt_eq _ _ _ hnd] at hg
  refine .one (step_lone_go ?_)
  rw [hg]
  simp only [stepG.apply, Sem.runT_eq, hrun, GStep.bare_after]
  simp [Frame.atR]

/-- A round of a loop over a function. -/
theorem op_round {b : Frame} {a : Act} {ops : Array Oper} {i : Nat} {rest : List Nat} {k : List Item} {cs : List Frame} {o : Oper} (ho : ops[i]? = some o) (hw : Region.wanted o (yielded ops a.tmps) = true)
    (hnd : ∀ c, o.op ≠ .defer c) {w' : World} {l : Nat} {f : FuncId} {tmps : Array Value} {assign body : Code} (hrun : (execOp a.eval o).run P w = .ok (.round l f tmps assign body) w') :
    Steps P (lone (b.atR a (.inRegion ops (i :: rest) :: k)) cs w) (lone (Frame.round l f tmps assign body .normal) (b.atR a (.inRegion ops (i :: rest) :: k) :: cs) w') := by
  have hg := stepGR_op (P := P) (b := b) (k := k) (cs := cs) (w := w) (rest := rest) ho hw
  rw [Oper.semAt_eq _ _ _ hnd] at hg
  refine .one (step_lone_go ?_)
  rw [hg]
  simp only [stepG.apply, Sem.runT_eq, hrun, GStep.bare_after]
  simp

/-- What a call's value leads to. -/
theorem who_run {f f' : Value} {args args' : List Value} {who : Who} (h : whoOf f args = some who) (hf : VR ρ f f') (ha : VL ρ args args') :
    match who with
    | .func g as => ∃ as', VL ρ as as' ∧ (do let d ← Deferred.ofValue f' ⟨args'⟩; invoke d.target d.args : Sem Next) = callFunc g ⟨as'⟩
    | .yield L as => as = args ∧ ∃ vL, ρ L = some vL ∧ (do let d ← Deferred.ofValue f' ⟨args'⟩; invoke d.target d.args : Sem Next) = Instr.yield vL.blk ⟨args'⟩ := by
  unfold whoOf at h
  split at h
  · rename_i g first captured
    cases h
    cases hf with
    | func h1 h2 =>
      rename_i l1 l1' l2 l2'
      refine ⟨l1' ++ (args' ++ l2'), ?_, ?_⟩
      · rw [appn_eq, appn_eq]
        exact h1.append (ha.append h2)
      · show callFunc g ((⟨l1'⟩ ++ ⟨args'⟩ : Array Value) ++ ⟨l2'⟩) = _
        congr 1
        apply Array.ext'
        simp
  · rename_i l
    cases h
    cases hf with
    | yield h1 =>
      refine ⟨rfl, _, h1, ?_⟩
      show Instr.yield _ ((⟨[]⟩ : Array Value) ++ ⟨args'⟩) = _
      congr 1
      apply Array.ext'
      simp
  · cases h

theorem valOf_some {r : R} {v : Value} (h : valOf r = some (v, s')) : r.out = .val v ∧ r.s = s' := by
  unfold valOf at h
  split at h
  · rename_i u hu
    cases h
    exact ⟨hu, rfl⟩
  · cases h

/-- A call: with what it enters done. -/
theorem call_sound (hE : E.Ok P) (hrec : RecOk P G rec) (hr : Rep G ρ s w) {f f' v : Value} {args args' : List Value} {who : Who} (h : whoOf f args = some who) (hc : callA E rec s who = some (v, s')) (hf : VR ρ f f') (ha : VL ρ args args') :
    (∃ n v' ρ' w' l, (do let d ← Deferred.ofValue f' ⟨args'⟩; invoke d.target d.args : Sem Next).run P w = .ok n w' ∧ nextVal n = some v' ∧ VR ρ' v v' ∧ Rep G ρ' s' w' ∧ Ext ρ s w ρ' s' w' l) ∨
    (∃ g as', (do let d ← Deferred.ofValue f' ⟨args'⟩; invoke d.target d.args : Sem Next).run P w = .ok (.enter g as') w ∧
      Calls P g as' w fun e w' => ∃ v' ρ' l, e = .returned v' ∧ VR ρ' v v' ∧ Rep G ρ' s' w' ∧ Ext ρ s w ρ' s' w' l) ∨
    (∃ l fn tmps assign body, (do let d ← Deferred.ofValue f' ⟨args'⟩; invoke d.target d.args : Sem Next).run P w = .ok (.round l fn tmps assign body) w ∧
      ∀ c cs, ∃ v' w' ρ' lg, VR ρ' v v' ∧ Rep G ρ' s' w' ∧ Ext ρ s w ρ' s' w' lg ∧ Steps P (lone (Frame.round l fn tmps assign body .normal) (c :: cs) w) (lone (c.finish v') cs w')) := by
  have hwho := who_run h hf ha
  unfold callA at hc
  split at hc
  · rename_i g as
    obtain ⟨as', has, hrw⟩ := hwho
    rw [hrw]
    split at hc
    · rename_i fn hfn
      rw [ob_eq_some] at hc
      obtain ⟨r, hrr, hv⟩ := hc
      obtain ⟨h1, h2⟩ := valOf_some hv
      subst h2
      refine .inr (.inl ⟨g, ⟨as'⟩, (hE.fn g fn hfn).2 _ _, ?_⟩)
      have := hrec.call g as s r hrr ρ as' w has hr
      intro cs
      obtain ⟨e, w', fr, ⟨v0, v', ρ', l, h3, h4, h5⟩, h6⟩ := this cs
      rw [h1] at h3; cases h3
      exact ⟨e, w', fr, ⟨v', ρ', l, h4, h5⟩, h6⟩
    · rename_i hfn
      left
      split at hc
      · rename_i e n hnz
        rw [chk_eq_some] at hc
        obtain ⟨hle, hc⟩ := hc
        cases hc
        have hle : n ≤ 1048576 := Nat.le_of_ble_eq_true hle
        obtain ⟨_, hz⟩ := hE.noZero g e hnz
        obtain ⟨cap, d, c, hcap, hcs, hrun⟩ := hz n w hle
        have := has.scalars (by simp [scalar])
        subst this
        have hfr := hr.fresh s.next (Nat.le_refl _)
        have hdr : Rep G ρ s { w with drawn := d } := hr.drawn _
        obtain ⟨k1, k2⟩ := hdr.new (e := .cells (List.replicate n undef) e (0, 0) false) (o := .cells c e) (v := ⟨w.heap.size, 0, cap⟩) rfl (by
          refine .cells (by simp [hcs]) (by simp; exact hcap) ?_ (fun hx => by cases hx) (.inl ⟨rfl, rfl⟩)
          intro i x hx
          have hi : i < n := by have := (List.getElem?_eq_some_iff.1 hx).1; simpa using this
          have hic : i < c.size := by omega
          refine ⟨c[i], by simp [Array.getElem?_eq_getElem hic], fun hk => ?_⟩
          rw [List.getElem?_replicate, if_pos hi] at hx
          cases hx
          exact absurd hk (show ¬ (known undef = true) from Bool.false_ne_true))
        refine ⟨_, _, _, _, _, hrun, rfl, ?_, k1, (Ext.drawn ρ s w d).trans k2⟩
        have := VR.openS (ρ := ρ.set s.next ⟨w.heap.size, 0, cap⟩) (b := s.next) (off := 0) (es := 1) (len := n) (cap := n) (cap' := cap) (Ren.set_same _ _ _) hcap (by simp)
        simpa using this
      · rename_i _ as2 hnz
        rw [ob_eq_some] at hc
        obtain ⟨u, hu, hc⟩ := hc
        cases hc
        obtain ⟨v', hrun, hv⟩ := hE.ext g _ v hfn hnz hu ρ as' has w
        exact ⟨_, v', ρ, w, [], hrun, rfl, hv, hr, .refl _ _ _⟩
      · cases hc
  · rename_i l as
    obtain ⟨rfl, vL, hL, hrw⟩ := hwho
    rw [hrw]
    rw [ob_eq_some] at hc
    obtain ⟨r, hrr, hv⟩ := hc
    obtain ⟨h1, h2⟩ := valOf_some hv
    subst h2
    obtain ⟨fn, tmps, assign, body, h3, h4⟩ := hrec.yield l as s r hrr ρ args' vL w hL ha hr
    refine .inr (.inr ⟨vL.blk, fn, tmps, assign, body, h3, fun c cs => ?_⟩)
    obtain ⟨v0, v', w', ρ', lg, h5, h6, h7, h8, h9⟩ := h4 c cs
    rw [h1] at h5; cases h5
    exact ⟨v', w', ρ', lg, h6, h7, h8, h9⟩

theorem opA_not_defer {o : Op} {v : Value} (h : opA P E tm s o = some (v, s')) : ∀ c, o ≠ .defer c := by
  intro c hc
  subst hc
  cases h

/-- One operation, calls included. -/
theorem op1_sound (hE : E.Ok P) (hrec : RecOk P G rec) (hr : Rep G ρ s w) {b : Frame} {a : Act} {ops : Array Oper} {i : Nat} {rest : List Nat} {k : List Item} {cs : List Frame} {o : Oper}
    (ho : ops[i]? = some o) (hw : Region.wanted o (yielded ops a.tmps) = true) {tm : List Value} {v : Value} (hd : Opd E ρ tm a.eval o.op.operands.toList) (h : op1 P E rec tm s o.op = some (v, s')) :
    ∃ v' w' ρ' l, Steps P (lone (b.atR a (.inRegion ops (i :: rest) :: k)) cs w) (lone (b.atR (a.put o.dst v') (.inRegion ops rest :: k)) cs w') ∧ VR ρ' v v' ∧ Rep G ρ' s' w' ∧ Ext ρ s w ρ' s' w' l := by
  unfold op1 at h
  split at h
  · rename_i f args ats hop
    rw [ob_eq_some] at h
    obtain ⟨f1, hf1, h⟩ := h
    rw [ob_eq_some] at h
    obtain ⟨as, has, h⟩ := h
    rw [ob_eq_some] at h
    obtain ⟨who, hwho, h⟩ := h
    have g1 := hd f (by rw [hop]; simp [Op.operands, Call.operands]) _ hf1
    have g2 := Opd.evs (fun x hx => hd x (by rw [hop]; simp [Op.operands, Call.operands]; exact .inr (Array.mem_toList_iff.1 hx))) has
    have hnd : ∀ c, o.op ≠ .defer c := fun c => by rw [hop]; simp
    have hexec : execOp a.eval o = (do let d ← Deferred.ofValue (a.eval f) ⟨args.toList.map a.eval⟩; invoke d.target d.args : Sem Next) := by
      have hmap : args.map a.eval = ⟨args.toList.map a.eval⟩ := by apply Array.ext'; simp
      unfold execOp
      rw [hop]
      simp only [resolve, hmap]
    rcases call_sound hE hrec hr hwho h g1 g2 with ⟨n, v', ρ', w', l, h1, h2, h3⟩ | ⟨g, as', h1, h2⟩ | ⟨L, fn, tmps, assign, body, h1, h2⟩
    · rw [← hexec] at h1
      exact ⟨v', w', ρ', l, op_step ho hw hnd h1 h2, h3⟩
    · rw [← hexec] at h1
      obtain ⟨e, w', fr, ⟨v', ρ', l, h3, h4, h5, h6⟩, h7, h8, h9⟩ := h2 (b.atR a (.inRegion ops (i :: rest) :: k) :: cs)
      subst h3
      refine ⟨v', w', ρ', l, ?_, h4, h5, h6⟩
      have hs := step_leave_returned (c := b.atR a (.inRegion ops (i :: rest) :: k)) (cs := cs) h9
      have hf := Frame.finish_atR b a ops i rest k v'
      rw [ho] at hf
      simp only [Option.bind_some] at hf
      rw [hf] at hs
      exact (op_enter ho hw hnd h1).trans (Steps.trans h7 (.one hs))
    · rw [← hexec] at h1
      obtain ⟨v', w', ρ', lg, h3, h4, h5, h6⟩ := h2 (b.atR a (.inRegion ops (i :: rest) :: k)) cs
      have hf := Frame.finish_atR b a ops i rest k v'
      rw [ho] at hf
      simp only [Option.bind_some] at hf
      rw [hf] at h6
      exact ⟨v', w', ρ', lg, (op_round ho hw hnd h1).trans h6, h3, h4, h5⟩
  · obtain ⟨n, v', ρ', w', l, h1, h2, h3⟩ := opA_sound hE hr hd h
    exact ⟨v', w', ρ', l, op_step ho hw (opA_not_defer h) h1 h2, h3⟩

theorem put_vl {a : Act} {dst : Option Tmp} {v v' : Value} (h : VL ρ tm a.tmps.toList) (hv : VR ρ v v') : VL ρ (putT tm dst v) (a.put dst v').tmps.toList := by
  cases dst with
  | none => exact h
  | some d =>
    show VL ρ (setn v tm d) (a.tmps.setIfInBounds d v').toList
    rw [setn_eq, Array.toList_setIfInBounds]
    exact h.set d hv
theorem put_defers (a : Act) (dst : Option Tmp) (v : Value) : (a.put dst v).defers = a.defers := by cases dst <;> rfl

/-- A region in the order of the text. -/
theorem seq_sound (hE : E.Ok P) (hng : E.ng ≤ G) (hrec : RecOk P G rec) {b : Frame} {ops : Array Oper} {k : List Item} {cs : List Frame} : ∀ (l : List Oper) (n : Nat) (tm tm' : List Value) (ρ : Ren) (s s' : St) (w : World) (a : Act),
    ops.toList.drop n = l → seqOps P E rec ops.toList l tm s = some (tm', s') → VL ρ tm a.tmps.toList → Rep G ρ s w →
    ∃ a' w' ρ' lg, Steps P (lone (b.atR a (.inRegion ops (List.range' n l.length) :: k)) cs w) (lone (b.atR a' (.inRegion ops [] :: k)) cs w') ∧ a'.defers = a.defers ∧ VL ρ' tm' a'.tmps.toList ∧ Rep G ρ' s' w' ∧ Ext ρ s w ρ' s' w' lg := by
  intro l
  induction l with
  | nil =>
    intro n tm tm' ρ s s' w a _ h hv hr
    cases h
    exact ⟨a, w, ρ, [], .refl _ _, rfl, hv, hr, .refl _ _ _⟩
  | cons o l ih =>
    intro n tm tm' ρ s s' w a hdrop h hv hr
    have ho : ops[n]? = some o := by
      have : (ops.toList.drop n)[0]? = some o := by rw [hdrop]; rfl
      rw [List.getElem?_drop] at this
      simpa using this
    have hdrop' : ops.toList.drop (n + 1) = l := by
      rw [← List.drop_drop, hdrop]
      rfl
    have h' : sel (wantedA ops.toList tm o.guard) (ob (op1 P E rec tm s o.op) fun r => seqOps P E rec ops.toList l (putT tm o.dst r.1) r.2) (seqOps P E rec ops.toList l (putT tm o.dst undef) s) = some (tm', s') := h
    rw [List.length_cons, List.range'_succ]
    have hw := wanted_eq (ops := ops) hv o
    cases hb : wantedA ops.toList tm o.guard with
    | true =>
      rw [hb] at hw
      rw [hb, sel_true, ob_eq_some] at h'
      obtain ⟨⟨v, s1⟩, h1, h2⟩ := h'
      obtain ⟨v', w1, ρ1, lg, g1, g2, g3, g4⟩ := op1_sound (b := b) (rest := List.range' (n + 1) l.length) (k := k) (cs := cs) hE hrec hr ho hw (eval_opd hE hr hng hv _) h1
      have hsub := g4.sub hr.fresh
      obtain ⟨a', w', ρ', lg', k1, k2, k3, k4, k5⟩ := ih (n + 1) _ _ ρ1 _ _ w1 (a.put o.dst v') hdrop' h2 (put_vl (hv.mono hsub) g2) g3
      exact ⟨a', w', ρ', _, g1.trans k1, by rw [k2, put_defers], k3, k4, g4.trans k5⟩
    | false =>
      rw [hb] at hw
      rw [hb, sel_false] at h'
      obtain ⟨a', w', ρ', lg', k1, k2, k3, k4, k5⟩ := ih (n + 1) _ _ ρ _ _ w (a.put o.dst undef) hdrop' h' (put_vl hv VR.undef) hr
      refine ⟨a', w', ρ', _, Steps.head ?_ k1, by rw [k2, put_defers], k3, k4, k5⟩
      have := stepR_op_skip (P := P) (b := b) (a := a) (k := k) (cs := cs) (w := w) (ops := ops) (i := n) (rest := List.range' (n + 1) l.length) (by rw [ho]; simpa using hw)
      rw [ho] at this
      exact this
end
end Go.Rx
