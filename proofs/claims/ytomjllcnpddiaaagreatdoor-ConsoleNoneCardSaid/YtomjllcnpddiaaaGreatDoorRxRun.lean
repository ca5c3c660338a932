/- The evaluator is sound. -/
import Derived.Test.YtomjllcnpddiaaaGreatDoorRxDraw4
set_option linter.unusedSimpArgs false
set_option linter.unusedVariables false
set_option linter.unusedSectionVars false
namespace Go.Rx
open Go

section
variable {P : Program} {E : Env} {G : Nat} {ρ : Ren} {s s' : St} {w : World} {tm : List Value} {rec : Rec}

/-! ### Loops over functions: the model's words -/
theorem loopAt_sound (hr : Rep G ρ s w) {L : Nat} {r : Loop} (h : s.loopAt L = some r) {v : View} (hv : ρ L = some v) :
    s.h.get L = some (.loop r) ∧ ∃ r', w.heap[v.blk]? = some (.loop r') ∧ LR ρ r r' := by
  unfold St.loopAt at h
  split at h
  · rename_i r0 hg
    cases h
    obtain ⟨v0, o, h1, h2, h3⟩ := hr.live L _ hg
    rw [hv] at h1; cases h1
    cases h3 with
    | loop h => exact ⟨hg, _, h2, h⟩
  · cases h
theorem loopAt_live (hr : Rep G ρ s w) {L : Nat} {r : Loop} (h : s.loopAt L = some r) : ∃ v, ρ L = some v := by
  unfold St.loopAt at h
  split at h
  · rename_i r0 hg
    obtain ⟨v0, o, h1, _⟩ := hr.live L _ hg
    exact ⟨v0, h1⟩
  · cases h

theorem run_getLoop {l : Nat} {r : Loop} (h : w.heap[l]? = some (.loop r)) : (Instr.getLoop l).run P w = .ok r w := by
  have := run_getObj (P := P) h (by simp)
  simp [Instr.getLoop, this]

/-- A loop's block turned. -/
theorem put_loop (hr : Rep G ρ s w) {L : Nat} {r r2 : Loop} {v : View} {r' r2' : Loop} (hg : s.h.get L = some (.loop r)) (hv : ρ L = some v) (hw : w.heap[v.blk]? = some (.loop r')) (hl : LR ρ r2 r2') :
    (setObj v.blk (.loop r2')).run P w = .ok () { w with heap := w.heap.setIfInBounds v.blk (.loop r2') } ∧
      Rep G ρ (s.put L (some (.loop r2))) { w with heap := w.heap.setIfInBounds v.blk (.loop r2') } ∧ Ext ρ s w ρ (s.put L (some (.loop r2))) { w with heap := w.heap.setIfInBounds v.blk (.loop r2') } [L] := by
  obtain ⟨g1, g2⟩ := heap_setObj (o' := .loop r2') hw
  have hset := run_setObj (P := P) (o' := .loop r2') hw (by simp)
  obtain ⟨h1, h2⟩ := hr.put hg hv g1 (.loop hl) (by simp) g2 rfl rfl rfl
  exact ⟨hset, h1, h2⟩

/-! ### Calls of functions: the end -/
theorem take_step {fr : Frame} {cs : List Frame} {blk : Nat} {ds : List Deferred} {w' : World} (hm : fr.mode = .returning) (hd : fr.defers = { target := .collected blk, args := #[] } :: ds)
    (hrun : (Instr.takeDeferred blk).run P w = .ok [] w') : step P (lone fr cs w) = .next (lone { fr with defers := ds } cs w') :=
  step_lone_go (by simp [stepG, unwind, hm, hd, hrun])

theorem takeAll_sound {b : Frame} {cs : List Frame} : ∀ (df : List Deferred) {df' : List Deferred} {s s' : St} {w : World} {todo : List Item} {tmps : Array Value}, takeAll df s = some s' → DL ρ df df' → Rep G ρ s w →
    ∃ w' l, Steps P (lone { b.atR ⟨tmps, df'⟩ todo with mode := .returning } cs w) (lone { b.atR ⟨tmps, []⟩ todo with mode := .returning } cs w') ∧ Rep G ρ s' w' ∧ Ext ρ s w ρ s' w' l := by
  intro df
  induction df with
  | nil =>
    intro df' s s' w todo tmps h hd hr
    cases hd
    cases h
    exact ⟨w, [], .refl _ _, hr, .refl _ _ _⟩
  | cons d df ih =>
    intro df' s s' w todo tmps h hd hr
    cases hd with
    | cons hb ht =>
      rename_i bk v l'
      simp only [takeAll] at h
      split at h
      · rename_i hg
        obtain ⟨v0, o, h1, h2, h3⟩ := hr.live bk _ hg
        rw [hb] at h1; cases h1
        cases h3 with
        | deferred _ =>
          have hget := run_getObj (P := P) h2 (by simp)
          have hset := run_setObj (P := P) (o' := .deferred none) h2 (by simp)
          obtain ⟨g1, g2⟩ := heap_setObj (o' := .deferred none) h2
          obtain ⟨hr1, he1⟩ := hr.put hg hb g1 (.deferred (.inl rfl)) (by simp) g2 rfl rfl rfl
          have hrun : (Instr.takeDeferred v.blk).run P w = .ok [] { w with heap := w.heap.setIfInBounds v.blk (.deferred none) } := by
            simp [Instr.takeDeferred, hget, hset]
          obtain ⟨w', l, k1, k2, k3⟩ := ih (todo := todo) (tmps := tmps) h ht hr1
          refine ⟨w', _, Steps.head ?_ k1, k2, he1.trans k3⟩
          exact take_step (fr := { b.atR ⟨tmps, { target := .collected v.blk, args := #[] } :: l'⟩ todo with mode := .returning }) rfl rfl hrun
      · cases h

theorem results_sound (hE : E.Ok P) (hr : Rep G ρ s w) {tmps : Array Value} (hv : VL ρ tm tmps.toList) : ∀ (l : List ResultVar) {vs : List Value}, resultsA E s tm l = some vs →
    ∃ vs', VL ρ vs vs' ∧ ∀ g : ResultVar → Sem Value, (∀ t, g (.tmp t) = pure (tmps.getD t undef)) → (∀ a t, g (.cell a t) = do loadVar t (← asAddr (tmps.getD a undef))) → (l.mapM g).run P w = .ok vs' w := by
  intro l
  have hgd : ∀ t, VR ρ (nthD undef tm t) (tmps.getD t undef) := by
    intro t
    rw [nthD_eq, Array.getD_eq_getD_getElem?]
    have := hv.getD t
    simpa using this
  induction l with
  | nil => intro vs h; cases h; exact ⟨[], .nil, fun _ _ _ => rfl⟩
  | cons r l ih =>
    intro vs h
    cases r with
    | tmp t =>
      simp only [resultsA] at h
      rw [ob_eq_some] at h
      obtain ⟨rs, h1, h2⟩ := h
      cases h2
      obtain ⟨vs', h3, h4⟩ := ih h1
      refine ⟨_, .cons (hgd t) h3, fun g hg1 hg2 => ?_⟩
      rw [List.mapM_cons, hg1]
      simp only [Sem.run_bind, Sem.run_pure, Result.andThen_ok, h4 g hg1 hg2]
    | cell a t =>
      simp only [resultsA] at h
      have hga := hgd a
      split at h
      · rename_i ad had
        rw [had] at hga
        rw [chk_eq_some] at h
        obtain ⟨hpl, h⟩ := h
        rw [ob_eq_some] at h
        obtain ⟨v, h1, h⟩ := h
        rw [ob_eq_some] at h
        obtain ⟨rs, h2, h⟩ := h
        cases h
        obtain ⟨vs', h3, h4⟩ := ih h2
        obtain ⟨vw, x', hρ, hx, hrun⟩ := loadVar_sound (P := P) hE hr h1
        generalize hc : tmps.getD a undef = cv at hga
        cases hga with
        | ptr hρ' =>
          rw [hρ] at hρ'; cases hρ'
          refine ⟨_, .cons hx h3, fun g hg1 hg2 => ?_⟩
          rw [List.mapM_cons, hg2, hc]
          simp only [Sem.run_bind, Sem.run_pure, Result.andThen_ok, asAddr, hrun, h4 g hg1 hg2]
      · cases h

theorem run_resultsOf (hE : E.Ok P) (hr : Rep G ρ s w) {tmps : Array Value} (hv : VL ρ tm tmps.toList) {fn : Func} {vs : List Value} (h : resultsA E s tm fn.results.toList = some vs) :
    ∃ v', VR ρ (resultA vs) v' ∧ (results fn tmps).run P w = .ok v' w := by
  obtain ⟨vs', h1, h2⟩ := results_sound hE hr hv fn.results.toList h
  unfold results
  rw [Sem.run_bind, Array.mapM_eq_mapM_toList, Sem.run_map, h2 _ (fun _ => rfl) (fun _ _ => rfl)]
  simp only [Result.andThen_ok]
  unfold resultA
  split
  · rename_i v
    cases h1 with
    | cons hv ht => cases ht; exact ⟨_, hv, rfl⟩
  · rename_i hne
    refine ⟨_, .tuple h1, ?_⟩
    have hlen := h1.length
    rw [dif_neg]
    · rfl
    · intro h
      have h3 : vs.length = 1 := by rw [hlen]; simpa using h
      obtain ⟨v, hv⟩ := List.length_eq_one_iff.1 h3
      exact hne v hv

theorem enter_eq {f : FuncId} {fn : Func} {body : Code} (hf : P.funcs[f]? = some fn) (hb : fn.body = some body) (args : Array Value) :
    Frame.enter P f args .normal = (Frame.enter P f args .normal).atR ⟨args ++ Array.replicate (fn.ntmps - args.size) undef, []⟩ [.code body] := by
  simp [Frame.enter, Frame.atR, hf, hb]

theorem call_ok (hE : E.Ok P) (hrec : RecOk P G rec) : CallOk P G (Rx.F P E rec) := by
  intro f args s r h ρ args' w ha hr cs
  have h' : (ob (E.fn f) fun fn => ob fn.body fun body =>
      ob (rec (.code body ⟨f, appn args (List.replicate (Nat.sub fn.ntmps (lengthn args)) undef), [], none⟩) s) fun r =>
        match r.out with
        | .normal | .ret => ob (takeAll r.df r.s) fun s => ob (resultsA E s r.tm fn.results.toList) fun l => some ⟨.val (resultA l), [], [], s⟩
        | _ => none) = some r := h
  rw [ob_eq_some] at h'
  obtain ⟨fn, hfn, h'⟩ := h'
  rw [ob_eq_some] at h'
  obtain ⟨body, hbody, h'⟩ := h'
  rw [ob_eq_some] at h'
  obtain ⟨r1, hr1, h'⟩ := h'
  obtain ⟨hf, _⟩ := hE.fn f fn hfn
  have hvl : VL ρ (appn args (List.replicate (Nat.sub fn.ntmps (lengthn args)) undef)) ((⟨args'⟩ : Array Value) ++ Array.replicate (fn.ntmps - (⟨args'⟩ : Array Value).size) undef).toList := by
    rw [appn_eq, lengthn_eq]
    have hlen := ha.length
    simp only [Array.toList_append, Array.toList_replicate]
    refine ha.append ?_
    have : Nat.sub fn.ntmps args.length = fn.ntmps - (⟨args'⟩ : Array Value).size := by rw [hlen]; rfl
    rw [this]
    exact .replicate _ VR.undef
  obtain ⟨a', w1, ρ1, l1, harr, hv1, hd1, hrep1, hext1⟩ := hrec.code body _ s r1 hr1 ρ (Frame.enter P f ⟨args'⟩ .normal) ⟨(⟨args'⟩ : Array Value) ++ Array.replicate (fn.ntmps - (⟨args'⟩ : Array Value).size) undef, []⟩ [] cs w rfl hvl .nil .none hr
  rw [← enter_eq hf hbody] at harr
  -- to the end of the code
  have leave : (r1.out = .normal ∨ r1.out = .ret) → ∃ todo, Steps P (lone (Frame.enter P f ⟨args'⟩ .normal) cs w) (lone { (Frame.enter P f ⟨args'⟩ .normal).atR a' todo with mode := .returning } cs w1) := by
    rintro (ho | ho)
    · rw [ho] at harr
      exact ⟨_, Steps.trans harr (.one (stepR_end rfl))⟩
    · rw [ho] at harr
      obtain ⟨k1, harr⟩ := harr
      exact ⟨_, harr.trans (.one (stepR_ret rfl))⟩
  have fin : (ob (takeAll r1.df r1.s) fun s => ob (resultsA E s r1.tm fn.results.toList) fun l => some (⟨.val (resultA l), [], [], s⟩ : R)) = some r → (r1.out = .normal ∨ r1.out = .ret) →
      ∃ e w' fr, (∃ v v' ρ' l, r.out = .val v ∧ e = .returned v' ∧ VR ρ' v v' ∧ Rep G ρ' r.s w' ∧ Ext ρ s w ρ' r.s w' l) ∧ Comes P (lone (Frame.enter P f ⟨args'⟩ .normal) cs w) (lone fr cs w') e ∧ fr.fn = f ∧ fr.leaving P w' e := by
    intro h' ho
    rw [ob_eq_some] at h'
    obtain ⟨s2, hs2, h'⟩ := h'
    rw [ob_eq_some] at h'
    obtain ⟨l, hl, h'⟩ := h'
    cases h'
    obtain ⟨todo, hsteps⟩ := leave ho
    obtain ⟨w2, l2, k1, k2, k3⟩ := takeAll_sound (P := P) (b := Frame.enter P f ⟨args'⟩ .normal) (cs := cs) (todo := todo) (tmps := a'.tmps) r1.df hs2 hd1 hrep1
    obtain ⟨v', hv', hres⟩ := run_resultsOf hE k2 hv1 hl
    refine ⟨.returned v', w2, _, ⟨_, v', ρ1, _, rfl, rfl, hv', k2, hext1.trans k3⟩, Steps.trans hsteps k1, rfl, rfl, rfl, rfl, fn, hf, hres⟩
  split at h'
  · rename_i ho
    exact fin h' (.inl ho)
  · rename_i ho
    exact fin h' (.inr ho)
  · cases h'

/-! ### Rounds -/
theorem setAll_sound : ∀ (ps : List Tmp) {vs vs' : List Value} {tm tm' : List Value}, VL ρ vs vs' → VL ρ tm tm' → ps.length = vs.length →
    VL ρ (setAll tm ps vs) ((ps.zip vs').foldl (fun tm (x : Tmp × Value) => tm.set x.1 x.2) tm') := by
  intro ps
  induction ps with
  | nil => intro vs vs' tm tm' _ h _; simpa [setAll] using h
  | cons p ps ih =>
    intro vs vs' tm tm' hvs h hl
    cases hvs with
    | nil => simp at hl
    | cons hv ht =>
      simp only [setAll, List.zip_cons_cons, List.foldl_cons]
      rw [setn_eq]
      exact ih ht (h.set p hv) (by simpa using hl)

theorem foldl_setIf (l : List (Tmp × Value)) : ∀ tm : Array Value, (l.foldl (fun tm (x : Tmp × Value) => tm.setIfInBounds x.1 x.2) tm).toList = l.foldl (fun tm (x : Tmp × Value) => tm.set x.1 x.2) tm.toList := by
  induction l with
  | nil => intro tm; rfl
  | cons x l ih => intro tm; rw [List.foldl_cons, List.foldl_cons, ih]; simp

theorem yield_ok (hrec : RecOk P G rec) : YieldOk P G (Rx.F P E rec) := by
  intro L args s r h ρ args' vL w hL ha hr
  have h' : (ob (s.loopAt L) fun l => chk (isReady l.state) (chk (Nat.beq (lengthn args) l.params.size)
      (ob (rec (.code l.assign ⟨l.fn, setAll l.tmps.toList l.params.toList args, [], some L⟩) s) fun r =>
        match r.out, r.df with
        | .normal, [] =>
          ob (r.s.loopAt L) fun l1 => chk (isReady l1.state)
            (ob (rec (.code l.body ⟨l.fn, r.tm, [], some L⟩) (r.s.put L (some (.loop { l1 with state := .busy })))) fun r2 =>
              ob (jumpOf r2.out) fun jump => ob (r2.s.loopAt L) fun l2 => match r2.df with
                | [] => some ⟨.val (.bool jump.isNone), [], [], r2.s.put L (some (.loop { l2 with state := if jump.isNone then .ready else .done, pending := jump }))⟩
                | _ => none)
        | _, _ => none))) = some r := h
  rw [ob_eq_some] at h'
  obtain ⟨l, hl, h'⟩ := h'
  rw [chk_eq_some, chk_eq_some] at h'
  obtain ⟨hready, hlen, h'⟩ := h'
  rw [ob_eq_some] at h'
  obtain ⟨r1, hr1, h'⟩ := h'
  obtain ⟨hg, l', hw, hlr⟩ := loopAt_sound hr hl hL
  rw [lengthn_eq] at hlen
  have hlen := Nat.eq_of_beq_eq_true hlen
  have hyield : (Instr.yield vL.blk ⟨args'⟩).run P w = .ok (.round vL.blk l'.fn ((l'.params.zip ⟨args'⟩).foldl (fun tmps (t, a) => tmps.setIfInBounds t a) l'.tmps) l'.assign l'.body) w := by
    have hne : (⟨args'⟩ : Array Value).size = l'.params.size := by
      rw [hlr.params, ← hlen, ha.length]
      simp
    simp [Instr.yield, run_getLoop (P := P) hw]
    simpa using hne
  refine ⟨_, _, _, _, hyield, fun c cs => ?_⟩
  split at h'
  · rename_i ho hdf
    rw [ob_eq_some] at h'
    obtain ⟨l1, hl1, h'⟩ := h'
    rw [chk_eq_some] at h'
    obtain ⟨hready1, h'⟩ := h'
    rw [ob_eq_some] at h'
    obtain ⟨r2, hr2, h'⟩ := h'
    rw [ob_eq_some] at h'
    obtain ⟨jump, hjump, h'⟩ := h'
    rw [ob_eq_some] at h'
    obtain ⟨l2, hl2, h'⟩ := h'
    split at h'
    · rename_i hdf2
      cases h'
      -- the frame
      have hvl : VL ρ (setAll l.tmps.toList l.params.toList args) ((l'.params.zip ⟨args'⟩).foldl (fun tmps (x : Tmp × Value) => tmps.setIfInBounds x.1 x.2) l'.tmps).toList := by
        rw [← Array.foldl_toList, foldl_setIf, Array.toList_zip, hlr.params]
        exact setAll_sound _ ha hlr.tmps (by simpa using hlen.symm)
      obtain ⟨a1, w1, ρ1, lg1, harr1, hv1, hd1, hrep1, hext1⟩ := hrec.code l.assign _ s r1 hr1 ρ
        (Frame.round vL.blk l'.fn ((l'.params.zip ⟨args'⟩).foldl (fun tmps (t, a) => tmps.setIfInBounds t a) l'.tmps) l'.assign l'.body .normal)
        ⟨(l'.params.zip ⟨args'⟩).foldl (fun tmps (t, a) => tmps.setIfInBounds t a) l'.tmps, []⟩ [.beginRound, .code l'.body] (c :: cs) w hlr.fn hvl .nil (.some hL) hr
      rw [ho] at harr1
      rw [hdf] at hd1
      have hL1 := hext1.sub hr.fresh _ _ hL
      obtain ⟨hg1, l1', hw1, hlr1⟩ := loopAt_sound hrep1 hl1 hL1
      have hst1 : l1'.state = .ready := by
        rw [hlr1.state]
        unfold isReady at hready1
        split at hready1
        · assumption
        · cases hready1
      obtain ⟨hset1, hrep1', hext1'⟩ := put_loop (P := P) (r2 := { l1 with state := .busy }) (r2' := { l1' with state := .busy }) hrep1 hg1 hL1 hw1
        ⟨rfl, hlr1.pending, hlr1.fn, hlr1.tmps, hlr1.params, hlr1.assign, hlr1.body, hlr1.defers⟩
      have hbegin : (Instr.beginRound vL.blk).run P w1 = .ok () { w1 with heap := w1.heap.setIfInBounds vL.blk (.loop { l1' with state := .busy }) } := by
        simp [Instr.beginRound, run_getLoop (P := P) hw1, hset1, hst1]
      obtain ⟨a2, w2, ρ2, lg2, harr2, hv2, hd2, hrep2, hext2⟩ := hrec.code l.body _ _ r2 hr2 ρ1
        (Frame.round vL.blk l'.fn ((l'.params.zip ⟨args'⟩).foldl (fun tmps (t, a) => tmps.setIfInBounds t a) l'.tmps) l'.assign l'.body .normal)
        a1 [] (c :: cs) _ hlr.fn hv1 hd1 (.some hL1) hrep1'
      have hL2 := hext2.sub hrep1'.fresh _ _ hL1
      obtain ⟨hg2, l2', hw2, hlr2⟩ := loopAt_sound hrep2 hl2 hL2
      obtain ⟨hset2, hrep2', hext2'⟩ := put_loop (P := P) (r2 := { l2 with state := if jump.isNone then .ready else .done, pending := jump }) (r2' := { l2' with state := if jump.isNone then .ready else .done, pending := jump }) hrep2 hg2 hL2 hw2
        ⟨rfl, rfl, hlr2.fn, hlr2.tmps, hlr2.params, hlr2.assign, hlr2.body, hlr2.defers⟩
      have hend : (Instr.endRound vL.blk jump).run P w2 = .ok (.bool jump.isNone) { w2 with heap := w2.heap.setIfInBounds vL.blk (.loop { l2' with state := if jump.isNone then .ready else .done, pending := jump }) } := by
        simp only [Instr.endRound, Sem.run_bind, run_getLoop (P := P) hw2, Result.andThen_ok, hset2, Sem.run_pure]
      refine ⟨_, _, _, ρ2, _, rfl, .bool jump.isNone, hrep2', (hext1.trans hext1').trans (hext2.trans hext2'), ?_⟩
      have hframe : (Frame.round vL.blk l'.fn ((l'.params.zip ⟨args'⟩).foldl (fun tmps (t, a) => tmps.setIfInBounds t a) l'.tmps) l'.assign l'.body .normal) =
          (Frame.round vL.blk l'.fn ((l'.params.zip ⟨args'⟩).foldl (fun tmps (t, a) => tmps.setIfInBounds t a) l'.tmps) l'.assign l'.body .normal).atR
            ⟨(l'.params.zip ⟨args'⟩).foldl (fun tmps (t, a) => tmps.setIfInBounds t a) l'.tmps, []⟩ [.code l.assign, .beginRound, .code l'.body] := by
        rw [← hlr.assign]; rfl
      rw [← hframe] at harr1
      have s2 := stepR_beginRound (P := P) (b := Frame.round vL.blk l'.fn ((l'.params.zip ⟨args'⟩).foldl (fun tmps (t, a) => tmps.setIfInBounds t a) l'.tmps) l'.assign l'.body .normal) (a := a1) (k := [.code l'.body]) (cs := c :: cs) rfl hbegin
      refine Steps.trans harr1 (Steps.head s2 ?_)
      rw [hlr.body]
      cases hout : r2.out with
      | normal =>
        rw [hout] at hjump harr2
        cases hjump
        exact Steps.trans harr2 (.one (stepR_round_end rfl rfl hend))
      | ret =>
        rw [hout] at hjump harr2
        cases hjump
        obtain ⟨k1, harr2⟩ := harr2
        exact harr2.trans (.one (stepR_round_ret rfl rfl hend))
      | exit id =>
        rw [hout] at hjump harr2
        cases hjump
        obtain ⟨k1, hx, harr2⟩ := harr2
        exact harr2.trans (.one (stepR_round_exit rfl rfl (by rw [hx]; rfl) hend))
      | val v => rw [hout] at hjump; cases hjump
    · cases h'
  · cases h'
end
end Go.Rx
