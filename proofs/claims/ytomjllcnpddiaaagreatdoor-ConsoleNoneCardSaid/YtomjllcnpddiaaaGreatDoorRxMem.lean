/- Reading and writing cells: the model's own words against the evaluator's. -/
import Derived.Test.YtomjllcnpddiaaaGreatDoorRxState
set_option linter.unusedSimpArgs false
set_option linter.unusedVariables false
set_option linter.unusedSectionVars false
namespace Go.Rx
open Go

theorem add_plain (b off n : Nat) : (⟨b, off, none⟩ : Addr).add n = ⟨b, off + n, none⟩ := by
  unfold Addr.add; split <;> simp_all

section
variable {P : Program} {w : World}

theorem cell_of {blk : Nat} {c : Array Value} {e : TypeId} {fz : Nat × Nat} (hw : w.heap[blk]? = some (.cells c e fz)) (i : Nat) : w.cell? ⟨blk, i, none⟩ = c[i]? := by
  simp [World.cell?, hw]
theorem frozen_of {blk : Nat} {c : Array Value} {e : TypeId} {fz : Nat × Nat} (hw : w.heap[blk]? = some (.cells c e fz)) (i : Nat) :
    w.frozen? ⟨blk, i, none⟩ = (decide (fz.1 ≤ i) && decide (i < fz.2)) := by
  obtain ⟨lo, hi⟩ := fz
  simp [World.frozen?, hw]

theorem run_load_cell {a : Addr} {v : Value} (m : Mode) (h : w.cell? a = some v) : (load a m).run P w = .ok v w := by simp [h]

theorem run_loadCellsFrom (b off : Nat) : ∀ (l : List Value) (i : Nat) (acc : Array Value), (∀ j x, l[j]? = some x → w.cell? ⟨b, off + (i + j), none⟩ = some x) →
    (loadCellsFrom ⟨b, off, none⟩ i l.length acc).run P w = .ok (acc ++ l.toArray) w
  | [], i, acc, _ => by simp [loadCellsFrom]
  | x :: l, i, acc, h => by
    have h0 := h 0 x rfl
    simp only [Nat.add_zero] at h0
    simp only [List.length_cons, loadCellsFrom, Sem.run_bind, add_plain, run_load_cell _ h0, Result.andThen_ok]
    rw [run_loadCellsFrom b off l (i + 1) _ fun j y hy => by have := h (j + 1) y (by simpa using hy); rwa [show i + 1 + j = i + (j + 1) by omega]]
    congr 1
    apply Array.ext'
    simp
theorem run_loadCells {b off : Nat} {l : List Value} (h : ∀ j x, l[j]? = some x → w.cell? ⟨b, off + j, none⟩ = some x) :
    (loadCells ⟨b, off, none⟩ l.length).run P w = .ok l.toArray w := by
  unfold loadCells
  rw [run_loadCellsFrom b off l 0 #[] fun j x hx => by simpa using h j x hx]
  simp
/-- No cell. -/
theorem run_loadCells_zero (a : Addr) : (loadCells a 0).run P w = .ok #[] w := rfl

/-- Cells stored one behind the other. -/
theorem run_storeCells (blk off : Nat) (elem : TypeId) (fz : Nat × Nat) : ∀ (vs : List Value) (i : Nat) (c : Array Value) (w : World), w.heap[blk]? = some (.cells c elem fz) →
    off + i + vs.length ≤ c.size → (∀ k, off + i ≤ k → k < off + i + vs.length → ¬ (fz.1 ≤ k ∧ k < fz.2)) → (∀ v ∈ vs, v.oneCell' = true) →
    ∃ w' c', (storeCells ⟨blk, off, none⟩ vs i).run P w = .ok () w' ∧ w'.heap[blk]? = some (.cells c' elem fz) ∧ c'.size = c.size ∧
      (∀ k, c'[k]? = if off + i ≤ k ∧ k < off + i + vs.length then vs[k - (off + i)]? else c[k]?) ∧
      w'.heap.size = w.heap.size ∧ (∀ k, k ≠ blk → w'.heap[k]? = w.heap[k]?) ∧ w'.os = w.os ∧ w'.tape = w.tape ∧ w'.output = w.output
  | [], i, c, w, hw, _, _, _ => ⟨w, c, rfl, hw, rfl, fun k => by rw [if_neg (by simp)], rfl, fun _ _ => rfl, rfl, rfl, rfl⟩
  | v :: vs, i, c, w, hw, hlen, hfz, h1 => by
    simp only [List.length_cons] at hlen hfz
    have hcell : w.cell? ⟨blk, off + i, none⟩ = some c[off + i] := by rw [cell_of hw, Array.getElem?_eq_getElem (by omega)]
    have hnf : w.frozen? ⟨blk, off + i, none⟩ = false := by
      rw [frozen_of hw]
      have := hfz (off + i) (Nat.le_refl _) (by omega)
      simp only [Bool.and_eq_false_iff, decide_eq_false_iff_not]
      omega
    have hst : (store ⟨blk, off + i, none⟩ v).run P w = .ok () (w.setCell ⟨blk, off + i, none⟩ v) := by
      rw [run_store P w _ v .plain (h1 v (by simp)), hcell]
      simp [hnf]
    have hw1 : (w.setCell ⟨blk, off + i, none⟩ v).heap[blk]? = some (.cells (c.setIfInBounds (off + i) v) elem fz) := by
      simp [World.setCell, Array.getElem?_modify, hw]
    obtain ⟨w', c', g1, g2, g3, g4, g5, g6, g7, g8, g9⟩ := run_storeCells blk off elem fz vs (i + 1) (c.setIfInBounds (off + i) v) (w.setCell ⟨blk, off + i, none⟩ v) hw1
      (by simp; omega) (fun k h2 h3 => hfz k (by omega) (by omega)) (fun u hu => h1 u (by simp [hu]))
    refine ⟨w', c', ?_, g2, by simpa using g3, ?_, by simpa using g5, ?_, g7, g8, g9⟩
    · simp only [storeCells, Sem.run_bind, add_plain, hst, Result.andThen_ok]
      exact g1
    · intro k
      rw [g4 k]
      by_cases h2 : off + i = k
      · subst h2
        rw [if_neg (by omega), if_pos (by simp)]
        simp [show off + i < c.size by omega]
      · by_cases h3 : off + (i + 1) ≤ k ∧ k < off + (i + 1) + vs.length
        · rw [if_pos h3, if_pos (by simp; omega), show k - (off + i) = (k - (off + (i + 1))) + 1 by omega]
          simp
        · rw [if_neg h3, if_neg (by simp; omega)]
          simp [h2]
    · intro k hk
      rw [g6 k hk]
      simp only [World.setCell, Array.getElem?_modify]
      rw [if_neg (Ne.symm hk)]
end

section
variable {P : Program} {G : Nat} {ρ : Ren} {s s' : St} {w : World}

/-- An abstract row of cells, and what stands behind it. -/
theorem cells_sound {α : Type} (h : Rep G ρ s w) {b : Nat} {f : List Value → TypeId → Nat × Nat → Bool → Option α} {r : α} (hc : s.cells b f = some r) :
    ∃ cs elem fz ex, s.h.get b = some (.cells cs elem fz ex) ∧ f cs elem fz ex = some r ∧ ∃ v c fz', ρ b = some v ∧ w.heap[v.blk]? = some (.cells c elem fz') ∧ OR ρ v (.cells cs elem fz ex) (.cells c elem fz') := by
  unfold St.cells at hc
  split at hc
  · rename_i cs elem fz ex hg
    obtain ⟨v, o, h1, h2, h3⟩ := h.live b _ hg
    have h3' := h3
    cases h3 with
    | cells hsize hlen hcc hex hf => exact ⟨cs, elem, fz, ex, hg, hc, v, _, _, h1, h2, h3'⟩
  · cases hc

theorem OR.cellsAt {v : View} {cs : List Value} {elem : TypeId} {fz fz' : Nat × Nat} {ex : Bool} {c : Array Value} (h : OR ρ v (.cells cs elem fz ex) (.cells c elem fz')) :
    c.size = v.base + v.avail ∧ cs.length ≤ v.avail ∧ (∀ i x, cs[i]? = some x → ∃ x', c[v.base + i]? = some x' ∧ CR ρ x x') ∧ (ex = true → v.base = 0 ∧ v.avail = cs.length) ∧ FR fz fz' v := by
  cases h with
  | cells hsize hlen hc hex hf => exact ⟨hsize, hlen, hc, hex, hf⟩

/-- Cells read. -/
theorem loadN_sound (h : Rep G ρ s w) {b off n : Nat} {l : List Value} (hl : s.loadN b off n = some l) :
    ∃ v l', ρ b = some v ∧ l.length = n ∧ VL ρ l l' ∧ ∀ j x, l'[j]? = some x → w.cell? ⟨v.blk, v.base + off + j, none⟩ = some x := by
  obtain ⟨cs, elem, fz, ex, hg, hf, v, c, fz', hv, hw, ho⟩ := cells_sound h hl
  rw [takeOk_eq] at hf
  split at hf
  · rename_i hcond
    simp only [Option.some.injEq] at hf
    subst hf
    rw [dropn_eq] at hcond
    simp only [List.length_drop] at hcond
    obtain ⟨hsize, hlen, hcc, _, _⟩ := ho.cellsAt
    refine ⟨v, (c.toList.drop (v.base + off)).take n, hv, by rw [dropn_eq]; simp; omega, ?_, ?_⟩
    · refine VL.of_get (by rw [dropn_eq]; simp; omega) fun i x x' h1 h2 => ?_
      rw [dropn_eq] at h1
      rw [List.getElem?_take] at h1 h2
      split at h1
      · rw [if_pos ‹_›] at h2
        rw [List.getElem?_drop] at h1 h2
        obtain ⟨y, hy, hcr⟩ := hcc (off + i) x h1
        rw [Array.getElem?_toList, show v.base + off + i = v.base + (off + i) by omega, hy] at h2
        cases h2
        refine hcr ?_
        have hk := hcond.2
        rw [List.all_eq_true] at hk
        refine hk x (List.mem_of_getElem? (i := i) ?_)
        rw [List.getElem?_take, if_pos ‹_›, List.getElem?_drop]
        exact h1
      · cases h1
    · intro j x hx
      rw [List.getElem?_take] at hx
      split at hx
      · rw [List.getElem?_drop, Array.getElem?_toList] at hx
        rw [cell_of hw]
        exact hx
      · cases hx
  · cases hf
theorem load1_sound (h : Rep G ρ s w) {b off : Nat} {x : Value} (hl : s.load1 b off = some x) :
    ∃ v x', ρ b = some v ∧ VR ρ x x' ∧ w.cell? ⟨v.blk, v.base + off, none⟩ = some x' := by
  obtain ⟨cs, elem, fz, ex, hg, hf, v, c, fz', hv, hw, ho⟩ := cells_sound h hl
  rw [ob_eq_some] at hf
  obtain ⟨y, hy, hk⟩ := hf
  rw [chk_eq_some] at hk
  obtain ⟨hk, hk2⟩ := hk
  cases hk2
  rw [nth_eq] at hy
  obtain ⟨_, _, hcc, _, _⟩ := ho.cellsAt
  obtain ⟨x', h1, h2⟩ := hcc off x hy
  exact ⟨v, x', hv, h2 hk, by rw [cell_of hw]; exact h1⟩

theorem thawed_sound {off n : Nat} {fz fz' : Nat × Nat} {v : View} (h : thawed off n fz = true) (hf : FR fz fz' v) {k : Nat} (h1 : v.base + off ≤ k) (h2 : k < v.base + off + n)
    (h3 : v.base + off + n ≤ v.base + v.avail) : ¬ (fz'.1 ≤ k ∧ k < fz'.2) := by
  obtain ⟨lo, hi⟩ := fz
  unfold thawed at h
  rcases hf with ⟨h4, h5⟩ | ⟨h4, h5, h6⟩ | ⟨h4, h5⟩
  · omega
  · omega
  · simp only at h4
    have h7 : Nat.beq lo hi = false := by
      cases hb : Nat.beq lo hi with
      | false => rfl
      | true => have := Nat.eq_of_beq_eq_true hb; omega
    simp only [h7, sel_false] at h
    subst h5
    simp only
    cases hb : Nat.ble hi off with
    | true => have := Nat.le_of_ble_eq_true hb; omega
    | false => rw [hb, sel_false] at h; have := Nat.le_of_ble_eq_true h; simp at this; omega

theorem FR.keep {fz fz' : Nat × Nat} {v : View} (h : FR fz fz' v) : FR fz fz' v := h

/-- Cells written. -/
theorem storeN_sound (h : Rep G ρ s w) {b off : Nat} {vs vs' : List Value} (hs : s.storeN b off vs = some s') (hv : VL ρ vs vs') :
    ∃ v w', ρ b = some v ∧ (storeCells ⟨v.blk, v.base + off, none⟩ vs').run P w = .ok () w' ∧ Rep G ρ s' w' ∧ Ext ρ s w ρ s' w' [b] := by
  obtain ⟨cs, elem, fz, ex, hg, hf, v, c, fz', hvb, hw, ho⟩ := cells_sound h hs
  rw [chk_eq_some, chk_eq_some, chk_eq_some] at hf
  obtain ⟨h1, h2, h3, h4⟩ := hf
  rw [lengthn_eq, lengthn_eq] at h1
  rw [lengthn_eq] at h2
  have h1' := Nat.le_of_ble_eq_true h1
  have h1'' : off + vs.length ≤ cs.length := h1'
  simp only [Option.some.injEq] at h4
  subst h4
  have hlen := hv.length
  obtain ⟨hsize, hlen2, hcc, hex, hfr⟩ := ho.cellsAt
  obtain ⟨w', c', g1, g2, g3, g4, g5, g6, g7, g8, g9⟩ := run_storeCells (P := P) v.blk (v.base + off) elem fz' vs' 0 c w hw (by rw [← hlen]; omega)
    (fun k hk1 hk2 => thawed_sound h2 hfr (by omega) (by rw [hlen]; omega) (by omega))
    (fun x' hx' => by
      obtain ⟨i, hi⟩ := List.getElem?_of_mem hx'
      have hx : i < vs.length := by rw [hlen]; exact (List.getElem?_eq_some_iff.1 hi).1
      obtain ⟨y, hy, hyr⟩ := hv.get (List.getElem?_eq_getElem hx)
      rw [hi] at hy; cases hy
      rw [hyr.oneCell]
      rw [alln_eq, List.all_eq_true] at h3
      exact h3 _ (List.getElem_mem hx))
  have hor : OR ρ v (.cells (splice vs cs off) elem fz ex) (.cells c' elem fz') := by
    rw [splice_eq _ _ _ h1'']
    have hl : (cs.take off ++ vs ++ cs.drop (off + vs.length)).length = cs.length := by simp; omega
    refine .cells (by omega) (by omega) ?_ (fun hx => by rw [hl]; exact hex hx) hfr
    intro i x hx
    rw [g4]
    by_cases hi : off ≤ i ∧ i < off + vs.length
    · rw [if_pos (by omega), show v.base + i - (v.base + off + 0) = i - off by omega]
      have : vs[i - off]? = some x := by
        rw [List.append_assoc, List.getElem?_append_right (by simp; omega)] at hx
        rw [List.length_take, Nat.min_eq_left (by omega)] at hx
        rw [List.getElem?_append_left (by omega)] at hx
        exact hx
      obtain ⟨x', h5, h6⟩ := hv.get this
      exact ⟨x', h5, h6.cr⟩
    · rw [if_neg (by omega)]
      refine hcc i x ?_
      by_cases h5 : i < off
      · rw [List.append_assoc, List.getElem?_append_left (by simp; omega), List.getElem?_take, if_pos h5] at hx
        exact hx
      · rw [List.getElem?_append_right (by simp; omega), List.getElem?_drop] at hx
        rw [show off + vs.length + (i - (cs.take off ++ vs).length) = i by simp; omega] at hx
        exact hx
  obtain ⟨hr, he⟩ := h.put hg hvb g2 hor g5 g6 g7 g8 g9
  exact ⟨v, w', hvb, g1, hr, he⟩
end
end Go.Rx
