/- Operations of the model, all of them but calls. -/
import Derived.Test.YtomjllcnpddiaaaGreatDoorRxOps7
set_option linter.unusedSimpArgs false
set_option linter.unusedVariables false
set_option linter.unusedSectionVars false
namespace Go.Rx
open Go

section
variable {P : Program} {E : Env} {G : Nat} {ρ : Ren} {s s' : St} {w : World} {tm : List Value} {e : Operand → Value}

/-- A new row of cells. -/
theorem row_sound (hr : Rep G ρ s w) {cs : List Value} {c : Array Value} (hv : VL ρ cs c.toList) (t : TypeId) :
    ∃ ρ', ρ' s.next = some ⟨w.heap.size, 0, cs.length⟩ ∧ Rep G ρ' (s.new (.cells cs t (0, 0) true)) (w.alloc (.cells c t)) ∧ Ext ρ s w ρ' (s.new (.cells cs t (0, 0) true)) (w.alloc (.cells c t)) [] := by
  have hf := hr.fresh s.next (Nat.le_refl _)
  have hlen := hv.length
  obtain ⟨h1, h2⟩ := hr.new (e := .cells cs t (0, 0) true) (o := .cells c t) (v := ⟨w.heap.size, 0, cs.length⟩) rfl (by
    refine .cells (by simp at hlen; simp [hlen]) (Nat.le_refl _) ?_ (fun _ => ⟨rfl, rfl⟩) (.inl ⟨rfl, rfl⟩)
    intro i x hx
    obtain ⟨x', h1, h2⟩ := hv.get hx
    refine ⟨x', ?_, (h2.mono (Ren.sub_set hf)).cr⟩
    simpa using h1)
  exact ⟨_, Ren.set_same _ _ _, h1, h2⟩

theorem run_newRow (t : TypeId) (c : Array Value) : (newRow t c).run P w = .ok ⟨w.heap.size, 0, none⟩ (w.alloc (.cells c t)) := by
  simp [newRow]
theorem run_newVar (t : TypeId) (v : Value) : (newVar t v).run P w = .ok ⟨w.heap.size, 0, none⟩ (w.alloc (.cells v.cells t)) := by
  simp [newVar, run_newRow]

/-- The places of a struct's fields. -/
theorem run_places (hE : E.Ok P) : ∀ (fs : List Field), (∀ f ∈ fs, (E.ty f.type).isSome = true) →
    ∃ l : List (Nat × Nat), (fs.mapM fun f => do pure (f.offset, ← sizeOf f.type) : Sem (List (Nat × Nat))).run P w = .ok l w ∧
      ∀ i q, place E (fs.map fun f => (f.offset, f.type)) i = some q → l[i]? = some q := by
  intro fs
  induction fs with
  | nil => intro _; exact ⟨[], rfl, fun i q h => by simp [place, nth_eq] at h⟩
  | cons f fs ih =>
    intro h
    obtain ⟨l, h1, h2⟩ := ih fun g hg => h g (by simp [hg])
    have h3 := h f (by simp)
    rw [Option.isSome_iff_exists] at h3
    obtain ⟨i, hi⟩ := h3
    have hs := (hE.ty f.type i hi).run_size (w := w)
    refine ⟨(f.offset, i.size) :: l, ?_, ?_⟩
    · rw [List.mapM_cons]
      simp [hs]
      simp at h1
      simp [h1]
    · intro j q hq
      cases j with
      | zero =>
        simp only [place, nth_eq, List.map_cons, List.getElem?_cons_zero, ob_some] at hq
        rw [ob_eq_some] at hq
        obtain ⟨i', h4, h5⟩ := hq
        rw [hi] at h4; cases h4; cases h5
        rfl
      | succ j =>
        have h6 : place E (fs.map fun f => (f.offset, f.type)) j = some q := by
          simpa only [place, nth_eq, List.map_cons, List.getElem?_cons_succ] using hq
        simpa using h2 j q h6

theorem rangeZero {z : List Value} {n : Nat} : ((Array.range (n * z.length)).map fun i => (⟨z⟩ : Array Value)[i % (⟨z⟩ : Array Value).size]!).toList = repeatList z n := zeroCells_eq z n

theorem opA_sound (hE : E.Ok P) (hr : Rep G ρ s w) {oper : Oper} {v : Value} (hd : Opd E ρ tm e oper.op.operands.toList) (h : opA P E tm s oper.op = some (v, s')) :
    GivesN P G ρ s w (execOp e oper) v s' := by
  obtain ⟨dst, o, type, pos, after, guard⟩ := oper
  simp only at hd h
  unfold opA at h
  split at h
  · -- move
    rw [ob_eq_some] at h
    obtain ⟨x', h1, h2⟩ := h
    cases h2
    exact ⟨_, _, ρ, w, [], rfl, rfl, hd _ (by simp [Op.operands]) _ h1, hr, .refl _ _ _⟩
  · -- assign
    rw [ob_eq_some] at h
    obtain ⟨x', h1, h2⟩ := h
    cases h2
    exact ⟨_, _, ρ, w, [], rfl, rfl, hd _ (by simp [Op.operands]) _ h1, hr, .refl _ _ _⟩
  · -- pick
    rename_i c a b
    rw [ob_eq_some] at h
    obtain ⟨c', h1, h⟩ := h
    rw [ob_eq_some] at h
    obtain ⟨a', h2, h⟩ := h
    rw [ob_eq_some] at h
    obtain ⟨b', h3, h⟩ := h
    split at h
    · rename_i q
      cases h
      have g1 := hd _ (by simp [Op.operands]) _ h1
      have g2 := hd _ (by simp [Op.operands]) _ h2
      have g3 := hd _ (by simp [Op.operands]) _ h3
      generalize hc : e c = cv at g1
      cases g1
      refine ⟨.value (if q then e a else e b), _, ρ, w, [], ?_, rfl, ?_, hr, .refl _ _ _⟩
      · simp [execOp, hc, asBool]
      · cases q
        · exact g3
        · exact g2
    · cases h
  · -- alloc
    rename_i t
    rw [ob_eq_some] at h
    obtain ⟨ti, hti, h⟩ := h
    cases h
    have ht := hE.ty t ti hti
    obtain ⟨ρ', h1, h2, h3⟩ := row_sound hr (zero_vl ht (ρ := ρ)) t
    refine Gives.next ⟨_, ρ', _, _, ?_, .ptr h1, h2, h3⟩
    simp [Instr.alloc, ht.run_zero, run_newVar]
  · -- box
    rename_i t x
    rw [ob_eq_some] at h
    obtain ⟨x', h1, h⟩ := h
    cases h
    have g1 := hd _ (by simp [Op.operands]) _ h1
    obtain ⟨ρ', h1, h2, h3⟩ := row_sound hr g1.cells t
    refine Gives.next ⟨_, ρ', _, _, ?_, .ptr h1, h2, h3⟩
    simp [Instr.box, run_newVar]
  · -- build
    rename_i t parts
    rw [ob_eq_some] at h
    obtain ⟨ti, hti, h⟩ := h
    rw [ob_eq_some] at h
    obtain ⟨ps, hps, h⟩ := h
    have ht := hE.ty t ti hti
    obtain ⟨d, hd1, hd2⟩ := ht.under
    have hpl := Opd.pairs (l := parts.toList) (fun x hx => hd x (by simpa [Op.operands] using hx)) hps
    have hmap : (parts.map fun (i, x) => (i, e x)).toList = parts.toList.map fun x => (x.1, e x.2) := by simp
    split at h
    · rename_i fs hdesc
      rw [hdesc] at hd2
      obtain ⟨f, rfl, hfs⟩ := TD.of_struct hd2
      rw [chk_eq_some, alln_eq] at h
      obtain ⟨hall, h⟩ := h
      rw [ob_eq_some] at h
      obtain ⟨cs, hcs, h⟩ := h
      cases h
      subst hfs
      obtain ⟨pl, hp1, hp2⟩ := run_places (P := P) (w := w) hE f.toList (fun g hg => by
        rw [List.all_eq_true] at hall
        exact hall _ (List.mem_map_of_mem hg))
      obtain ⟨r', hf1, hf2, hf3⟩ := fill_sound (ρ := ρ) (pl' := fun i => pl[i]?) (fun i q hq => hp2 i q hq) hpl (zero_vl ht) hcs
      refine Gives.next (.pure' hr (.agg hf2) ?_)
      have hp1' : (f.toList.mapM fun f => Prod.mk f.offset <$> sizeOf f.type).run P w = .ok pl w := by simpa using hp1
      simp [Instr.build, ht.run_zero, run_under_of hd1, Array.mapM_eq_mapM_toList, hp1']
      simp at hf1
      rw [hf1]
      rfl
    · rename_i n el hdesc
      rw [hdesc] at hd2; have := TD.of_array hd2; subst this
      rw [ob_eq_some] at h
      obtain ⟨ei, hei, h⟩ := h
      rw [ob_eq_some] at h
      obtain ⟨cs, hcs, h⟩ := h
      cases h
      obtain ⟨r', hf1, hf2, hf3⟩ := fill_sound (ρ := ρ) (pl' := fun i => some (i * ei.size, ei.size)) (fun i q hq => hq) hpl (zero_vl ht) hcs
      refine Gives.next (.pure' hr (.agg hf2) ?_)
      simp [Instr.build, ht.run_zero, run_under_of hd1, (hE.ty el ei hei).run_size, hf1]
    · cases h
  · -- buildSlice
    rename_i t len parts
    rw [ob_eq_some] at h
    obtain ⟨ti, hti, h⟩ := h
    have ht := hE.ty t ti hti
    obtain ⟨d, hd1, hd2⟩ := ht.under
    split at h
    · rename_i el hdesc
      rw [hdesc] at hd2; have := TD.of_slice hd2; subst this
      rw [ob_eq_some] at h
      obtain ⟨ei, hei, h⟩ := h
      rw [ob_eq_some] at h
      obtain ⟨ps, hps, h⟩ := h
      rw [chk_eq_some] at h
      obtain ⟨hsm, h⟩ := h
      rw [ob_eq_some] at h
      obtain ⟨cs, hcs, h⟩ := h
      cases h
      have hte := hE.ty el ei hei
      have hpl := Opd.pairs (l := parts.toList) (fun x hx => hd x (by simpa [Op.operands] using hx)) hps
      obtain ⟨r', hf1, hf2, hf3⟩ := fill_sound (ρ := ρ) (pl' := fun i => some (i * ei.size, ei.size)) (fun i q hq => hq) hpl (repeat_vl hte.zsc len) hcs
      have hsm : len * ei.size ≤ 1048576 := Nat.le_of_ble_eq_true hsm
      have hsm' : ¬ (16777216 < len * ei.size) := by omega
      obtain ⟨ρ', h1, h2, h3⟩ := row_sound (c := ⟨r'⟩) hr hf2 el
      refine Gives.next ⟨_, ρ', _, _, ?_, .slice h1, h2, h3⟩
      have hpm : (Array.map (fun x : Nat × Operand => (x.1, e x.2)) parts).toList = parts.toList.map fun x => (x.1, e x.2) := by simp
      have hrow : ∀ z : Array Value, (z = ⟨ei.zero⟩ ∨ len * ei.size = 0) → ((Array.range (len * ei.size)).map fun x => z[x % z.size]!) = ⟨repeatList ei.zero len⟩ := by
        intro z hz
        apply Array.ext'
        rcases hz with hz | h0
        · subst hz
          have := rangeZero (z := ei.zero) (n := len)
          rw [hte.zlen] at this
          exact this
        · have : repeatList ei.zero len = [] := by rw [← List.length_eq_zero_iff, repeatList_len, hte.zlen]; exact h0
          rw [this, h0]; simp
      simp only [Instr.buildSlice, Sem.run_bind, run_under_of hd1, Result.andThen_ok, hte.run_size, Sem.run_ite]
      rw [if_neg (by simpa using hsm')]
      simp only [Sem.run_pure, Result.andThen_ok]
      split
      · rename_i h0
        rw [hrow _ (.inr h0), hpm, hf1]
        simp [run_newRow]
      · simp only [hte.run_zero, zeroV_cells hte, Result.andThen_ok]
        rw [hrow _ (.inl rfl), hpm, hf1]
        simp [run_newRow]
    · cases h
  · -- insert
    rename_i t m k x
    rw [ob_eq_some] at h
    obtain ⟨m', h1, h⟩ := h
    rw [ob_eq_some] at h
    obtain ⟨k', h2, h⟩ := h
    rw [ob_eq_some] at h
    obtain ⟨x', h3, h⟩ := h
    rw [ob_eq_some] at h
    obtain ⟨s1, h4, h⟩ := h
    cases h
    obtain ⟨w', b, hrun, hr', he'⟩ := mapUpdateA_sound (P := P) hE hr h4 (hd _ (by simp [Op.operands]) _ h1) (hd _ (by simp [Op.operands]) _ h2) (hd _ (by simp [Op.operands]) _ h3)
    exact ⟨.skip, _, ρ, w', _, by simp [execOp, hrun], rfl, VR.undef, hr', he'⟩
  · -- mapUpdate
    rename_i t m k x
    rw [ob_eq_some] at h
    obtain ⟨m', h1, h⟩ := h
    rw [ob_eq_some] at h
    obtain ⟨k', h2, h⟩ := h
    rw [ob_eq_some] at h
    obtain ⟨x', h3, h⟩ := h
    rw [ob_eq_some] at h
    obtain ⟨s1, h4, h⟩ := h
    cases h
    obtain ⟨w', b, hrun, hr', he'⟩ := mapUpdateA_sound (P := P) hE hr h4 (hd _ (by simp [Op.operands]) _ h1) (hd _ (by simp [Op.operands]) _ h2) (hd _ (by simp [Op.operands]) _ h3)
    exact ⟨.skip, _, ρ, w', _, by simp [execOp, hrun], rfl, VR.undef, hr', he'⟩
  · -- load
    rename_i t x
    rw [ob_eq_some] at h
    obtain ⟨x', h1, h⟩ := h
    split at h
    · rename_i a
      rw [chk_eq_some] at h
      obtain ⟨hpl, h⟩ := h
      rw [ob_eq_some] at h
      obtain ⟨v1, h2, h⟩ := h
      cases h
      have g1 := hd _ (by simp [Op.operands]) _ h1
      obtain ⟨vw, x'', hρ, hv, hrun⟩ := loadVar_sound (P := P) hE hr h2
      generalize hc : e x = cv at g1
      cases g1 with
      | ptr hρ' =>
        rw [hρ] at hρ'; cases hρ'
        refine Gives.next (.pure' hr hv ?_)
        simp [Instr.loadAt, Instr.sureAddr, hc, hrun]
    · cases h
  · -- store
    rename_i t x y
    rw [ob_eq_some] at h
    obtain ⟨x', h1, h⟩ := h
    rw [ob_eq_some] at h
    obtain ⟨y', h2, h⟩ := h
    split at h
    · rename_i a
      rw [chk_eq_some] at h
      obtain ⟨hpl, h⟩ := h
      rw [ob_eq_some] at h
      obtain ⟨s1, h3, h⟩ := h
      cases h
      have g1 := hd _ (by simp [Op.operands]) _ h1
      have g2 := hd _ (by simp [Op.operands]) _ h2
      obtain ⟨vw, w', hρ, hrun, hr', he'⟩ := storeVar_sound (P := P) hE hr h3 g2
      generalize hc : e x = cv at g1
      cases g1 with
      | ptr hρ' =>
        rw [hρ] at hρ'; cases hρ'
        exact ⟨.skip, _, ρ, w', _, by simp [execOp, Instr.storeAt, Instr.sureAddr, hc, hrun], rfl, VR.undef, hr', he'⟩
    · cases h
  · -- nilCheck
    rename_i x
    rw [ob_eq_some] at h
    obtain ⟨x', h1, h⟩ := h
    have g1 := hd _ (by simp [Op.operands]) _ h1
    generalize hc : e x = cv at g1
    split at h
    · cases h
      cases g1 with
      | ptr hρ => exact ⟨.value (e x), _, ρ, w, [], by simp [execOp, hc], rfl, by rw [hc]; exact .ptr hρ, hr, .refl _ _ _⟩
    · cases h
      cases g1 with
      | func ha hc' => exact ⟨.value (e x), _, ρ, w, [], by simp [execOp, hc], rfl, by rw [hc]; exact .func ha hc', hr, .refl _ _ _⟩
    · cases h
      cases g1 with
      | yield hρ => exact ⟨.value (e x), _, ρ, w, [], by simp [execOp, hc], rfl, by rw [hc]; exact .yield hρ, hr, .refl _ _ _⟩
    · cases h
  · -- binOp
    rename_i op t x y cl
    rw [ob_eq_some] at h
    obtain ⟨a, h1, h⟩ := h
    rw [ob_eq_some] at h
    obtain ⟨b, h2, h⟩ := h
    rw [ob_eq_some] at h
    obtain ⟨v1, h3, h⟩ := h
    cases h
    obtain ⟨v', hv, hrun⟩ := binA_sound (w := w) hE h3 (hd _ (by simp [Op.operands]) _ h1) (hd _ (by simp [Op.operands]) _ h2)
    exact Gives.next (.pure' hr hv hrun)
  · -- unOp
    rename_i op t x
    rw [ob_eq_some] at h
    obtain ⟨a, h1, h⟩ := h
    have g1 := hd _ (by simp [Op.operands]) _ h1
    split at h
    · rw [ob_eq_some] at h
      obtain ⟨u, h2, h⟩ := h
      rw [chk_eq_some] at h
      obtain ⟨h3, h⟩ := h
      cases h
      generalize hc : e x = cv at g1
      cases g1
      refine Gives.next (.pure' hr (.of_scalar h3) ?_)
      show (Op.unary op (e x)).run P w = _
      rw [hc]
      exact pureRun_run _ _ h2
    · rw [ob_eq_some] at h
      obtain ⟨u, h2, h⟩ := h
      rw [chk_eq_some] at h
      obtain ⟨h3, h⟩ := h
      cases h
      generalize hc : e x = cv at g1
      cases g1
      refine Gives.next (.pure' hr (.of_scalar h3) ?_)
      show (Op.unary op (e x)).run P w = _
      rw [hc]
      exact pureRun_run _ _ h2
    · cases h
  · -- convert
    rename_i src dst' x
    rw [ob_eq_some] at h
    obtain ⟨a, h1, h⟩ := h
    exact (convertA_sound hE hr h (hd _ (by simp [Op.operands]) _ h1)).next
  · -- makeInterface
    rename_i t x
    rw [ob_eq_some] at h
    obtain ⟨a, h1, h⟩ := h
    rw [ob_eq_some] at h
    obtain ⟨ti, hti, h⟩ := h
    have g1 := hd _ (by simp [Op.operands]) _ h1
    obtain ⟨d, hd1, hd2⟩ := (hE.ty t ti hti).under
    split at h
    · cases h
    · cases h
    · rename_i hn1 hn2
      cases h
      refine Gives.next (.pure' hr (.iface g1) ?_)
      show (Instr.makeInterface t (e x)).run P w = _
      cases d <;> first
        | (simp [Instr.makeInterface, run_under_of hd1]; done)
        | (exfalso; exact hn1 (by rw [← hd2]; rfl))
  · -- makeFunc
    rename_i fn first captured
    rw [ob_eq_some] at h
    obtain ⟨a, h1, h⟩ := h
    rw [ob_eq_some] at h
    obtain ⟨b, h2, h⟩ := h
    have g1 := Opd.evs (fun x hx => hd x (by simp only [Op.operands, Array.toList_append, List.mem_append]; exact .inl hx)) h1
    have g2 := Opd.evs (fun x hx => hd x (by simp only [Op.operands, Array.toList_append, List.mem_append]; exact .inr hx)) h2
    split at h
    · rename_i f
      cases h
      refine Gives.next (.pure' hr (.func g1 g2) ?_)
      show (Instr.makeFunc (.func f) (first.map e) (captured.map e)).run P w = _
      simp only [Instr.makeFunc, Sem.run_pure]
      congr 2 <;> (apply Array.ext'; simp)
    · cases h
  · -- makeMap
    cases h
    have hf := hr.fresh s.next (Nat.le_refl _)
    obtain ⟨h1, h2⟩ := hr.new (e := .map [] 0) (o := .map #[] 0) (v := ⟨w.heap.size, 0, 0⟩) rfl (.map .nil)
    refine Gives.next ⟨_, _, _, _, ?_, .map (Ren.set_same _ _ _), h1, h2⟩
    simp [Instr.makeMap]
  · -- makeSlice
    rename_i t l c
    rw [ob_eq_some] at h
    obtain ⟨ti, hti, h⟩ := h
    have ht := hE.ty t ti hti
    obtain ⟨d, hd1, hd2⟩ := ht.under
    split at h
    · rename_i el hdesc
      rw [hdesc] at hd2; have := TD.of_slice hd2; subst this
      rw [ob_eq_some] at h
      obtain ⟨ei, hei, h⟩ := h
      have hte := hE.ty el ei hei
      rw [ob_eq_some] at h
      obtain ⟨l', h1, h⟩ := h
      rw [ob_eq_some] at h
      obtain ⟨c', h2, h⟩ := h
      have g1 := hd _ (by simp [Op.operands]) _ h1
      have g2 := hd _ (by simp [Op.operands]) _ h2
      split at h
      · rename_i ln cn
        rw [chk_eq_some, chk_eq_some, chk_eq_some] at h
        obtain ⟨h3, h4, h5, h⟩ := h
        cases h
        have h3 : ln ≤ cn := Nat.le_of_ble_eq_true h3
        have h4 : cn ≤ 1048576 := Nat.le_of_ble_eq_true h4
        have h5 : ei.bytes ≤ 1048576 := Nat.le_of_ble_eq_true h5
        generalize hc1 : e l = lv at g1
        generalize hc2 : e c = cv at g2
        cases g1; cases g2
        obtain ⟨ρ', k1, k2, k3⟩ := row_sound (c := ⟨repeatList ei.zero cn⟩) hr (repeat_vl hte.zsc cn) el
        refine Gives.next ⟨_, ρ', _, _, ?_, .slice k1, k2, k3⟩
        have hb : cn * ei.bytes ≤ 1099511627776 := bytes_small h4 h5
        obtain ⟨f, hf1, hf2, hf3, hf4⟩ := hte.run_info (w := w)
        have hn0 : ¬ ((cn : Int) < 0) := by omega
        have hn1 : ¬ ((281474976710656 : Int) < (f.bytes : Int) * (cn : Int)) := by
          rw [hf2, Int.mul_comm, ← Int.natCast_mul]
          omega
        have hn2 : ¬ ((ln : Int) < 0) := by omega
        have hn3 : ¬ ((cn : Int) < (ln : Int)) := by omega
        have hrow : ∀ z : Array Value, (z = ⟨ei.zero⟩ ∨ cn * ei.size = 0) → ((Array.range (cn * ei.size)).map fun x => z[x % z.size]!) = ⟨repeatList ei.zero cn⟩ := by
          intro z hz
          apply Array.ext'
          rcases hz with hz | h0
          · subst hz
            have := rangeZero (z := ei.zero) (n := cn)
            rw [hte.zlen] at this
            exact this
          · have : repeatList ei.zero cn = [] := by rw [← List.length_eq_zero_iff, repeatList_len, hte.zlen]; exact h0
            rw [this, h0]; simp
        have hask : (askRoom (cn * f.bytes)).run P w = .ok () w := by
          unfold askRoom
          split <;> simp
        show (Instr.makeSlice t (e l) (e c)).run P w = _
        rw [hc1, hc2]
        have hwl := wrap_small (n := ln) (by omega)
        have hwc := wrap_small h4
        simp only [Instr.makeSlice, Sem.run_bind, run_under_of hd1, Result.andThen_ok, asInt, asIntOf, Sem.run_pure, hf4, Int.ofNat_eq_natCast, hwl, hwc, Int.toNat_natCast, Sem.run_ite, hask, hte.run_size]
        rw [if_neg (by simp; omega)]
        split
        · rename_i h0
          rw [hrow _ (.inr h0)]
          simp [run_newRow]
        · simp only [hte.run_zero, zeroV_cells hte, Result.andThen_ok]
          rw [hrow _ (.inl rfl)]
          simp [run_newRow]
      · cases h
    · cases h
  · -- slice
    rename_i t x lo hi mx
    rw [ob_eq_some] at h
    obtain ⟨x', h1, h⟩ := h
    rw [ob_eq_some] at h
    obtain ⟨lo', h2, h⟩ := h
    rw [ob_eq_some] at h
    obtain ⟨hi', h3, h⟩ := h
    rw [ob_eq_some] at h
    obtain ⟨mx', h4, h⟩ := h
    rw [ob_eq_some] at h
    obtain ⟨v1, h5, h⟩ := h
    cases h
    have opt : ∀ (o : Option Operand) (o' : Option Value), (∀ y, o = some y → y ∈ (Op.slice t x lo hi mx).operands.toList) → evOpt E tm o = some o' → OV ρ o' (o.map e) := by
      intro o o' hm ho
      cases o with
      | none => cases ho; exact ⟨fun v hv => (by cases hv), fun _ => rfl⟩
      | some y =>
        simp only [evOpt] at ho
        rw [ob_eq_some] at ho
        obtain ⟨u, hu, ho⟩ := ho
        cases ho
        refine ⟨fun v hv => ?_, fun hv => by cases hv⟩
        cases hv
        exact ⟨e y, rfl, hd y (hm y rfl) u hu⟩
    obtain ⟨v', hv, hrun⟩ := sliceA_sound (w := w) hE h5 (hd x (by simp [Op.operands]) _ h1) (opt lo lo' (fun y hy => by simp [Op.operands, hy]) h2) (opt hi hi' (fun y hy => by simp [Op.operands, hy]) h3) (opt mx mx' (fun y hy => by simp [Op.operands, hy]) h4)
    exact Gives.next (.pure' hr hv hrun)
  · -- fieldAddr
    rename_i t x i
    rw [ob_eq_some] at h
    obtain ⟨x', h1, h⟩ := h
    have g1 := hd _ (by simp [Op.operands]) _ h1
    split at h
    · rw [ob_eq_some] at h
      obtain ⟨ti, hti, h⟩ := h
      obtain ⟨d, hd1, hd2⟩ := (hE.ty t ti hti).under
      split at h
      · rename_i fs hdesc
        rw [hdesc] at hd2
        obtain ⟨f, rfl, hfs⟩ := TD.of_struct hd2
        rw [ob_eq_some] at h
        obtain ⟨q, hq, h⟩ := h
        rw [ob_eq_some] at h
        obtain ⟨fi, hfi, h⟩ := h
        rw [chk_eq_some, chk_eq_some] at h
        obtain ⟨hsz, hpl, h⟩ := h
        cases h
        have hsz : 0 < fi.size := Nat.le_of_ble_eq_true hsz
        rw [nth_eq, ← hfs, List.getElem?_map] at hq
        cases hfq : f.toList[i]? with
        | none => rw [hfq] at hq; cases hq
        | some fl =>
          rw [hfq] at hq
          cases hq
          have hfq' : f[i]? = some fl := by simpa using hfq
          generalize hc : e x = cv at g1
          cases g1 with
          | ptr hρ =>
            refine Gives.next (.pure' hr (.ptr hρ) ?_)
            have hne : fi.size ≠ 0 := by omega
            simp [Instr.fieldAt, run_under_of hd1, hfq', hc, Instr.sureAddr, fieldPlace, (hE.ty _ fi hfi).run_size, hne, add_plain, Nat.add_assoc]
      · cases h
    · cases h
  · -- field
    rename_i t x i
    rw [ob_eq_some] at h
    obtain ⟨x', h1, h⟩ := h
    have g1 := hd _ (by simp [Op.operands]) _ h1
    split at h
    · rw [ob_eq_some] at h
      obtain ⟨ti, hti, h⟩ := h
      obtain ⟨d, hd1, hd2⟩ := (hE.ty t ti hti).under
      split at h
      · rename_i fs hdesc
        rw [hdesc] at hd2
        obtain ⟨f, rfl, hfs⟩ := TD.of_struct hd2
        rw [ob_eq_some] at h
        obtain ⟨q, hq, h⟩ := h
        rw [ob_eq_some] at h
        obtain ⟨v1, hp, h⟩ := h
        cases h
        rw [nth_eq, ← hfs, List.getElem?_map] at hq
        cases hfq : f.toList[i]? with
        | none => rw [hfq] at hq; cases hq
        | some fl =>
          rw [hfq] at hq
          cases hq
          have hfq' : f[i]? = some fl := by simpa using hfq
          generalize hc : e x = cv at g1
          cases g1 with
          | agg hl =>
            obtain ⟨x'', hx, hrun⟩ := part_sound (w := w) hE hl hp
            refine Gives.next (.pure' hr hx ?_)
            simp [Instr.field, run_under_of hd1, hfq', hc, asAgg, hrun]
      · cases h
    · cases h
  · -- indexAddr
    rename_i t x i
    rw [ob_eq_some] at h
    obtain ⟨x', h1, h⟩ := h
    rw [ob_eq_some] at h
    obtain ⟨i', h2, h⟩ := h
    rw [ob_eq_some] at h
    obtain ⟨v1, h3, h⟩ := h
    cases h
    obtain ⟨v', hv, hrun⟩ := indexAddrA_sound (w := w) hE h3 (hd x (by simp [Op.operands]) _ h1) (hd i (by simp [Op.operands]) _ h2)
    exact Gives.next (.pure' hr hv hrun)
  · -- index
    rename_i t x i
    rw [ob_eq_some] at h
    obtain ⟨x', h1, h⟩ := h
    rw [ob_eq_some] at h
    obtain ⟨i', h2, h⟩ := h
    rw [ob_eq_some] at h
    obtain ⟨ti, hti, h⟩ := h
    obtain ⟨d, hd1, hd2⟩ := (hE.ty t ti hti).under
    have g1 := hd x (by simp [Op.operands]) _ h1
    have g2 := hd i (by simp [Op.operands]) _ h2
    split at h
    · rename_i k n
      generalize hc2 : e i = iv at g2
      cases g2
      split at h
      · rename_i b hdesc
        rw [hdesc] at hd2; have := TD.of_string hd2; subst this
        rw [ob_eq_some] at h
        obtain ⟨c, hc, h⟩ := h
        cases h
        rw [nth_eq] at hc
        generalize hc1 : e x = xv at g1
        cases g1
        refine Gives.next (.pure' hr (.int _ _) ?_)
        have hb : b[n]? = some c := by
          have hlt : n < b.data.toList.length := (List.getElem?_eq_some_iff.1 hc).1
          have hlt' : n < b.size := by simpa using hlt
          have h6 : b.data.toList[n] = c := (List.getElem?_eq_some_iff.1 hc).2
          rw [getElem?_pos b n hlt']
          exact congrArg some h6
        show (Instr.index t (e x) (e i)).run P w = _
        rw [hc1, hc2]
        simp [Instr.index, asIntOf, run_under_of hd1, hb]
      · rename_i len el cs hdesc
        rw [hdesc] at hd2; have := TD.of_array hd2; subst this
        rw [ob_eq_some] at h
        obtain ⟨ei, hei, h⟩ := h
        rw [chk_eq_some] at h
        obtain ⟨hlt, h⟩ := h
        have hlt : n < len := Nat.le_of_ble_eq_true hlt
        rw [ob_eq_some] at h
        obtain ⟨v1, hp, h⟩ := h
        cases h
        generalize hc1 : e x = xv at g1
        cases g1 with
        | agg hl =>
          obtain ⟨x'', hx, hrun⟩ := part_sound (w := w) hE hl hp
          refine Gives.next (.pure' hr hx ?_)
          show (Instr.index t (e x) (e i)).run P w = _
          rw [hc1, hc2]
          have hrun' : (part el ⟨_⟩ (n * ei.size)).run P w = .ok x'' w := hrun
          simp [Instr.index, asIntOf, run_under_of hd1, hlt, (hE.ty el ei hei).run_size, hrun']
      · cases h
    · cases h
  · -- lookup
    rename_i t m k ok
    rw [ob_eq_some] at h
    obtain ⟨m', h1, h⟩ := h
    rw [ob_eq_some] at h
    obtain ⟨k', h2, h⟩ := h
    rw [ob_eq_some] at h
    obtain ⟨v1, h3, h⟩ := h
    cases h
    obtain ⟨v', hv, hrun⟩ := lookupA_sound (P := P) hE hr h3 (hd m (by simp [Op.operands]) _ h1) (hd k (by simp [Op.operands]) _ h2)
    exact Gives.next (.pure' hr hv hrun)
  · -- extract
    rename_i x i
    rw [ob_eq_some] at h
    obtain ⟨x', h1, h⟩ := h
    have g1 := hd x (by simp [Op.operands]) _ h1
    split at h
    · rename_i vs
      rw [ob_eq_some] at h
      obtain ⟨v1, h2, h⟩ := h
      cases h
      rw [nth_eq] at h2
      generalize hc : e x = cv at g1
      cases g1 with
      | tuple hl =>
        obtain ⟨v', h3, h4⟩ := hl.get h2
        refine Gives.next (.pure' hr h4 ?_)
        simp [Instr.extract, hc, h3]
    · cases h
  · -- a builtin
    rename_i b args ats
    rw [ob_eq_some] at h
    obtain ⟨vs, h1, h⟩ := h
    have g1 := Opd.evs (fun x hx => hd x (by simp [Op.operands, Call.operands]; exact Array.mem_toList_iff.1 hx)) h1
    obtain ⟨n, v', ρ', w', l, h2, h3⟩ := builtinA_sound (ty := type) (cs := args.map fun | .const _ => true | _ => false) hE hr h g1
    refine ⟨n, v', ρ', w', l, ?_, h3⟩
    have hmap : args.map e = ⟨args.toList.map e⟩ := by apply Array.ext'; simp
    simp only [execOp, resolve, Sem.run_bind, Sem.run_pure, Result.andThen_ok, invoke, hmap]
    exact h2
  · cases h
end
end Go.Rx
