/- What is asked of an environment, and what its types say of the model's words. -/
import Derived.Test.YtomjllcnpddiaaaGreatDoorRxMem
set_option linter.unusedSimpArgs false
set_option linter.unusedVariables false
set_option linter.unusedSectionVars false
namespace Go.Rx
open Go

/-- The zero value of a type. -/
def zeroV (i : TI) : Value := if i.desc.agg then .agg ⟨i.zero⟩ else (i.zero.head?).getD undef

structure TyOk (P : Program) (t : TypeId) (i : TI) : Prop where
  under : ∃ d, P.underlying t = some d ∧ TD.of d = i.desc
  info : ∃ f, P.info? t = some f ∧ f.size = i.size ∧ f.bytes = i.bytes ∧ f.zero = some (zeroV i)
  zlen : i.zero.length = i.size
  zsc : i.zero.all scalar = true
  one : i.desc.agg = false → i.size = 1

structure Env.Ok (P : Program) (E : Env) : Prop where
  ng : E.ng ≤ P.globals.size
  mixed : P.follows .mixedOrders = true
  fn : ∀ f fn, E.fn f = some fn → P.funcs[f]? = some fn ∧ ∀ (args : Array Value) (w : World), (callFunc f args).run P w = .ok (.enter f args) w
  ty : ∀ t i, E.ty t = some i → TyOk P t i
  ext : ∀ g args v, E.fn g = none → E.noZero g = none → E.ext g args = some v → ∀ (ρ : Ren) (args' : List Value), VL ρ args args' → ∀ w : World, ∃ v', (callFunc g ⟨args'⟩).run P w = .ok (.value v') w ∧ VR ρ v v'
  noZero : ∀ g e, E.noZero g = some e → E.fn g = none ∧ ∀ (n : Nat) (w : World), n ≤ 1048576 →
    ∃ (cap d : Nat) (c : Array Value), n ≤ cap ∧ c.size = cap ∧ (callFunc g #[.int .i64 (.ofNat n)]).run P w = .ok (.value (.slice (some ⟨w.heap.size, 0, none⟩) n cap)) ({ w with drawn := d }.alloc (.cells c e))
  byteRow : ∀ e, E.byteRow e = true → P.cellsOf e = 1 ∧ ∀ count off n, off + n ≤ count → liesAt P P.depth e count off e n = true

section
variable {P : Program} {w : World} {t : TypeId} {i : TI}

theorem TyOk.run_under (h : TyOk P t i) : ∃ d, TD.of d = i.desc ∧ (underlying t).run P w = .ok d w := by
  obtain ⟨d, h1, h2⟩ := h.under
  exact ⟨d, h2, by simp [underlying, h1]⟩
theorem TyOk.run_info (h : TyOk P t i) : ∃ f, f.size = i.size ∧ f.bytes = i.bytes ∧ f.zero = some (zeroV i) ∧ (typeInfo t).run P w = .ok f w := by
  obtain ⟨f, h1, h2⟩ := h.info
  exact ⟨f, h2.1, h2.2.1, h2.2.2, by simp [typeInfo, h1]⟩
theorem TyOk.run_size (h : TyOk P t i) : (sizeOf t).run P w = .ok i.size w := by
  obtain ⟨f, h1, _, _, h2⟩ := h.run_info (w := w)
  simp [sizeOf, h2, h1]
theorem TyOk.run_zero (h : TyOk P t i) : (zeroValue t).run P w = .ok (zeroV i) w := by
  obtain ⟨f, _, _, h1, h2⟩ := h.run_info (w := w)
  simp [zeroValue, h2, h1]
theorem TyOk.run_agg (h : TyOk P t i) : (isAgg t).run P w = .ok i.desc.agg w := by
  obtain ⟨d, h1, h2⟩ := h.run_under (w := w)
  rw [← h1]
  cases d <;> simp [isAgg, h2, TD.of, TD.agg]

theorem zeroV_cells (h : TyOk P t i) : (zeroV i).cells = ⟨i.zero⟩ := by
  unfold zeroV
  split
  · rfl
  · rename_i ha
    have h1 := h.one (by simpa using ha)
    have h2 := h.zlen
    rw [h1] at h2
    obtain ⟨z, hz⟩ := List.length_eq_one_iff.1 h2
    rw [hz]
    have h3 := h.zsc
    rw [hz] at h3
    simp at h3
    cases z <;> first | rfl | simp [scalar] at h3

variable {ρ : Ren}
theorem zero_vl (h : TyOk P t i) : VL ρ i.zero (zeroV i).cells.toList := by
  rw [zeroV_cells h]; exact .of_scalars h.zsc

/-! ### Variables read and written -/
variable {G : Nat} {s s' : St} {E : Env}

theorem loadVar_sound (hE : E.Ok P) (h : Rep G ρ s w) {b off : Nat} {x : Value} (hl : loadVarA E s t b off = some x) :
    ∃ v x', ρ b = some v ∧ VR ρ x x' ∧ (loadVar t ⟨v.blk, v.base + off, none⟩).run P w = .ok x' w := by
  unfold loadVarA at hl
  rw [ob_eq_some] at hl
  obtain ⟨i, hi, hl⟩ := hl
  have ht := hE.ty t i hi
  cases ha : i.desc.agg with
  | true =>
    rw [ha, sel_true, ob_eq_some] at hl
    obtain ⟨l, hl, hx⟩ := hl
    cases hx
    obtain ⟨v, l', hv, hn, hvl, hc⟩ := loadN_sound h hl
    refine ⟨v, .agg ⟨l'⟩, hv, .agg hvl, ?_⟩
    have hr := run_loadCells (P := P) hc
    rw [← hvl.length, hn] at hr
    simp [loadVar, ht.run_agg, ha, ht.run_size, hr]
  | false =>
    rw [ha, sel_false] at hl
    obtain ⟨v, x', hv, hx, hc⟩ := load1_sound h hl
    refine ⟨v, x', hv, hx, ?_⟩
    simp [loadVar, ht.run_agg, ha, hc]

theorem storeVar_sound (hE : E.Ok P) (h : Rep G ρ s w) {b off : Nat} {x x' : Value} (hs : storeVarA E s t b off x = some s') (hx : VR ρ x x') :
    ∃ v w', ρ b = some v ∧ (storeVar t ⟨v.blk, v.base + off, none⟩ x').run P w = .ok () w' ∧ Rep G ρ s' w' ∧ Ext ρ s w ρ s' w' [b] := by
  unfold storeVarA at hs
  rw [ob_eq_some] at hs
  obtain ⟨i, hi, hs⟩ := hs
  rw [chk_eq_some] at hs
  obtain ⟨h1, hs⟩ := hs
  have ht := hE.ty t i hi
  obtain ⟨v, w', hv, hr, hrep, hext⟩ := storeN_sound (P := P) h hs hx.cells
  refine ⟨v, w', hv, ?_, hrep, hext⟩
  rw [lengthn_eq] at h1
  have h2 := Nat.eq_of_beq_eq_true h1
  rw [hx.cells.length] at h2
  simp only [Array.length_toList] at h2
  simp [storeVar, ht.run_size, h2, hr]

/-- A part of an aggregate. -/
theorem part_sound (hE : E.Ok P) {l l' : List Value} (hl : VL ρ l l') {off : Nat} {x : Value} (hp : partA E t l off = some x) :
    ∃ x', VR ρ x x' ∧ (part t ⟨l'⟩ off).run P w = .ok x' w := by
  unfold partA at hp
  rw [ob_eq_some] at hp
  obtain ⟨i, hi, hp⟩ := hp
  have ht := hE.ty t i hi
  cases ha : i.desc.agg with
  | true =>
    rw [ha, sel_true, ob_eq_some] at hp
    obtain ⟨m, hm, hx⟩ := hp
    cases hx
    rw [takeOk_eq] at hm
    split at hm
    · cases hm
      refine ⟨.agg ⟨(l'.drop off).take i.size⟩, .agg (by rw [dropn_eq]; exact (hl.drop off).take i.size), ?_⟩
      simp only [part, ht.run_agg, ha, ht.run_size, Sem.run_bind, Result.andThen_ok, if_true, Sem.run_pure]
      congr 2
      apply Array.ext'
      simp [List.extract_eq_take_drop]
    · cases hm
  | false =>
    rw [ha, sel_false, nth_eq] at hp
    obtain ⟨x', h1, h2⟩ := hl.get hp
    refine ⟨x', h2, ?_⟩
    simp [part, ht.run_agg, ha, h1]
end
end Go.Rx
