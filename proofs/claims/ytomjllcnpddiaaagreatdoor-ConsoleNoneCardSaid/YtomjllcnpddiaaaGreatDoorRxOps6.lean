/- Operations of the model: conversions, builtins. -/
import Derived.Test.YtomjllcnpddiaaaGreatDoorRxOps5
import Derived.Laws.IdiomStrings
set_option linter.unusedSimpArgs false
set_option linter.unusedVariables false
set_option linter.unusedSectionVars false
namespace Go.Rx
open Go

section
variable {P : Program} {E : Env} {G : Nat} {ρ : Ren} {s s' : St} {w : World}

theorem bytesOf_sound {l : List Value} : ∀ {bs : List UInt8}, bytesOf l = some bs → ∃ ns : List Int, l = ns.map (Value.int .u8) ∧ bs = ns.map (fun n => UInt8.ofNat n.toNat) := by
  induction l with
  | nil => intro bs h; cases h; exact ⟨[], rfl, rfl⟩
  | cons v l ih =>
    intro bs h
    by_cases hv : ∃ n, v = .int .u8 n
    · obtain ⟨n, rfl⟩ := hv
      have h' : ob (bytesOf l) (fun r => some (UInt8.ofNat n.toNat :: r)) = some bs := h
      rw [ob_eq_some] at h'
      obtain ⟨r, h1, h2⟩ := h'
      cases h2
      obtain ⟨ns, h3, h4⟩ := ih h1
      exact ⟨n :: ns, by rw [h3]; rfl, by rw [h4]; rfl⟩
    · exfalso
      cases v <;> first
        | (cases h; done)
        | (rename_i k n; cases k <;> first | (exact hv ⟨_, rfl⟩) | (cases h; done))

theorem foldl_push_ints : ∀ (ns : List Int) (r : ByteArray), ns.foldl (fun r n => r.push (UInt8.ofNat n.toNat)) r = ⟨⟨r.data.toList ++ ns.map (fun n => UInt8.ofNat n.toNat)⟩⟩
  | [], r => by simp
  | n :: ns, r => by
    simp only [List.foldl_cons]
    rw [foldl_push_ints ns]
    simp [ByteArray.push]

theorem VL.ints {ns : List Int} {l' : List Value} (h : VL ρ (ns.map (Value.int .u8)) l') : l' = ns.map (Value.int .u8) := by
  induction ns generalizing l' with
  | nil => cases h; rfl
  | cons n ns ih => cases h with | cons h t => cases h; rw [ih t]; rfl

theorem run_under_of {t : TypeId} {d : TypeDesc} (h : P.underlying t = some d) (w2 : World) : (underlying t).run P w2 = .ok d w2 := by simp [underlying, h]

/-- A row's shape. -/
theorem shape_of {blk : Nat} {c : Array Value} {e : TypeId} {fz : Nat × Nat} (hw : w.heap[blk]? = some (.cells c e fz)) : w.shape? blk = some (e, c.size) := by
  simp [World.shape?, hw]

set_option maxHeartbeats 1000000 in
theorem convertA_sound (hE : E.Ok P) (hr : Rep G ρ s w) {src dst : TypeId} {x x' v : Value} (h : convertA P E s src dst x = some (v, s')) (hx : VR ρ x x') :
    Gives P G ρ s w (convert src dst x') v s' := by
  unfold convertA at h
  rw [ob_eq_some] at h
  obtain ⟨di, hdi, h⟩ := h
  rw [ob_eq_some] at h
  obtain ⟨si, hsi, h⟩ := h
  obtain ⟨dd, hd1, hd2⟩ := (hE.ty dst di hdi).under
  obtain ⟨sd, hs1, hs2⟩ := (hE.ty src si hsi).under
  split at h
  · rename_i k0 n
    cases hx
    split at h
    · rename_i k1 k h1 h2
      rw [h1] at hs2; rw [h2] at hd2
      have := TD.of_int hs2; subst this
      have := TD.of_int hd2; subst this
      cases h
      refine ⟨_, ρ, w, [], ?_, .int _ _, hr, .refl _ _ _⟩
      simp [convert, run_under_of hs1, run_under_of hd1, Conv.intToInt]
    · cases h
  · rename_i b
    cases hx
    split at h
    · rename_i h1 h2
      rw [h1] at hs2; rw [h2] at hd2
      have := TD.of_string hs2; subst this
      have := TD.of_string hd2; subst this
      cases h
      refine ⟨_, ρ, w, [], ?_, .string _, hr, .refl _ _ _⟩
      simp [convert, run_under_of hs1, run_under_of hd1]
    · rename_i e h1 h2
      rw [h1] at hs2; rw [h2] at hd2
      have := TD.of_string hs2; subst this
      have := TD.of_slice hd2; subst this
      rw [ob_eq_some] at h
      obtain ⟨ei, hei, h⟩ := h
      obtain ⟨ed, he1, he2⟩ := (hE.ty e ei hei).under
      split at h
      · rename_i h3
        rw [h3] at he2
        have := TD.of_int he2; subst this
        rw [chk_eq_some] at h
        obtain ⟨_, h⟩ := h
        cases h
        have hrun := run_bytes_of_string w src dst e b hs1 hd1 he1
        have hle := le_grownCap w b.size 0 e
        generalize grownCap w b.size 0 e = cap at hrun hle
        have hsz : (bytesRow b cap).size = cap := by
          simp [bytesRow]
          have : b.data.size = b.size := rfl
          omega
        have hf := hr.fresh s.next (Nat.le_refl _)
        have hdr : Rep G ρ s w.drew := hr.drawn _
        obtain ⟨h4, h5⟩ := hdr.new (e := .cells (byteVals b.data.toList) e (1, 1) false) (o := .cells (bytesRow b cap) e ((bytesRow b cap).size, (bytesRow b cap).size + 1)) (v := ⟨w.heap.size, 0, cap⟩) rfl (by
          refine .cells (by simpa using hsz) ?_ ?_ (fun hx => by cases hx) (.inr (.inl ⟨rfl, by decide, by simp [hsz]⟩))
          · rw [byteVals_eq]
            simp
            exact hle
          · intro i x hx
            have hi : i < (byteVals b.data.toList).length := (List.getElem?_eq_some_iff.1 hx).1
            rw [byteVals_eq] at hx hi
            simp at hi
            refine ⟨x, ?_, ?_⟩
            · rw [← hx]
              simp only [bytesRow, Nat.zero_add]
              rw [Array.getElem?_append_left (by simpa using hi)]
              simp
            · refine VR.cr (.of_scalar ?_)
              simp at hx
              obtain ⟨_, _, rfl⟩ := hx
              rfl)
        refine ⟨_, _, _, _, hrun, ?_, h4, (Ext.drawn ρ s w _).trans h5⟩
        have := VR.openS (ρ := ρ.set s.next ⟨w.heap.size, 0, cap⟩) (b := s.next) (off := 0) (es := 1) (len := b.size) (cap := b.size) (cap' := cap) (Ren.set_same _ _ _) hle (by simp)
        simpa using this
      · cases h
    · cases h
  · cases hx
    split at h
    · rename_i h1 h2
      rw [h1] at hs2; rw [h2] at hd2
      have := TD.of_pointer hs2; subst this
      have := TD.of_unsafe hd2; subst this
      cases h
      refine ⟨_, ρ, w, [], ?_, .nilPtr, hr, .refl _ _ _⟩
      simp [convert, run_under_of hs1, run_under_of hd1, Conv.unsafePointer]
    · rename_i h1 h2
      rw [h1] at hs2; rw [h2] at hd2
      have := TD.of_unsafe hs2; subst this
      have := TD.of_pointer hd2; subst this
      cases h
      refine ⟨_, ρ, w, [], ?_, .nilPtr, hr, .refl _ _ _⟩
      simp [convert, run_under_of hs1, run_under_of hd1, Conv.unsafePointer]
    · cases h
  · rename_i a
    obtain ⟨cs, e, fz, ex, hg, h, v0, c, fz', hρ0, hw, hor⟩ := cells_sound hr h
    rw [chk_eq_some, chk_eq_some] at h
    obtain ⟨hpl, hex, h⟩ := h
    obtain ⟨hsize, hcl, hcc, hexx, hfr⟩ := hor.cellsAt
    obtain ⟨hb0, hav⟩ := hexx hex
    obtain ⟨blk, off, sp⟩ := a
    cases hx with
    | ptr hρ =>
      rename_i vw
      rw [hρ] at hρ0; cases hρ0
      have hsh := shape_of hw
      have hseen : ∀ w2 : World, w2 = w → (Conv.seenAt ⟨v0.blk, v0.base + off, none⟩).run P w2 = .ok ⟨v0.blk, v0.base + off, none⟩ w2 := fun w2 hw2 => by
        subst hw2
        simp [Conv.seenAt, viewAt, hsh]
      split at h
      · rename_i t h1 h2
        rw [h1] at hs2; rw [h2] at hd2
        have := TD.of_pointer hs2; subst this
        have := TD.of_unsafe hd2; subst this
        rw [ob_eq_some] at h
        obtain ⟨ti, hti, h⟩ := h
        rw [chk_eq_some, chk_eq_some] at h
        obtain ⟨h3, h4, h⟩ := h
        cases h
        have h3 : 0 < ti.size := Nat.le_of_ble_eq_true h3
        rw [lengthn_eq] at h4
        have h4 : off < cs.length := Nat.le_of_ble_eq_true h4
        refine ⟨_, ρ, w, [], ?_, .ptr hρ, hr, .refl _ _ _⟩
        have h5 : ¬ (c.size ≤ v0.base + off) := by omega
        have h6 : ti.size ≠ 0 := by omega
        simp [convert, run_under_of hs1, run_under_of hd1, Conv.unsafePointer, hseen w rfl, cellsIn, hsh, (hE.ty t ti hti).run_size, h5, h6]
      · rename_i u h1 h2
        rw [h1] at hs2; rw [h2] at hd2
        have := TD.of_unsafe hs2; subst this
        have := TD.of_pointer hd2; subst this
        rw [ob_eq_some] at h
        obtain ⟨ui, hui, h⟩ := h
        rw [chk_eq_some] at h
        obtain ⟨h3, h⟩ := h
        cases h
        refine ⟨_, ρ, w, [], ?_, .ptr hρ, hr, .refl _ _ _⟩
        rw [lengthn_eq] at h3
        have h5 : liesAt P P.depth e (c.size / P.cellsOf e) (v0.base + off) u 1 = true := by
          rw [hsize, hb0, hav, Nat.zero_add, Nat.zero_add]
          exact h3
        have hvar : (variablesAt ⟨v0.blk, v0.base + off, none⟩ u 1).run P w = .ok true w := by
          simp [variablesAt, hsh, h5]
        simp [convert, run_under_of hs1, run_under_of hd1, Conv.unsafePointer, hseen w rfl, hvar, (hE.ty u ui hui).run_size]
      · cases h
  · rename_i a len cap
    split at h
    · rename_i e h1 h2
      rw [h1] at hs2; rw [h2] at hd2
      have := TD.of_slice hs2; subst this
      have := TD.of_string hd2; subst this
      rw [ob_eq_some] at h
      obtain ⟨ei, hei, h⟩ := h
      obtain ⟨ed, he1, he2⟩ := (hE.ty e ei hei).under
      split at h
      · rename_i h3
        rw [h3] at he2
        have := TD.of_int he2; subst this
        split at h
        · cases h
          cases hx
          refine ⟨_, ρ, w, [], ?_, .string _, hr, .refl _ _ _⟩
          rw [run_convert_bytes_string w src dst e _ _ _ hs1 he1 hd1]
          simp [Conv.bytesToString]
        · rename_i a
          rw [ob_eq_some] at h
          obtain ⟨l, hl, h⟩ := h
          rw [ob_eq_some] at h
          obtain ⟨bs, hbs, h⟩ := h
          cases h
          obtain ⟨ns, hns1, hns2⟩ := bytesOf_sound hbs
          have key : ∃ a' cap', x' = .slice (some a') len cap' ∧ (loadCells a' len).run P w = .ok (ns.map (Value.int .u8)).toArray w := by
            cases hl0 : Nat.beq len 0 with
            | true =>
              have hl0' := Nat.eq_of_beq_eq_true hl0
              subst hl0'
              rw [hl0, sel_true] at hl
              cases hl
              have : ns = [] := by cases ns with | nil => rfl | cons n ns => cases hns1
              subst this
              rcases hx.of_slice with ⟨_, vw, hρ, hx1⟩ | ⟨es, cap', vw, _, hρ, hx1, _, _⟩ | ⟨hl0, _, a', hx1⟩
              · exact ⟨_, _, hx1, run_loadCells_zero _⟩
              · exact ⟨_, _, hx1, run_loadCells_zero _⟩
              · exact ⟨_, _, hx1, run_loadCells_zero _⟩
            | false =>
              rw [hl0, sel_false] at hl
              obtain ⟨v0, l', hρ0, hlen, hvl, hc⟩ := loadN_sound hr hl
              subst hns1
              have := hvl.ints
              subst this
              have hrun := run_loadCells (P := P) hc
              rw [hlen] at hrun
              rcases hx.of_slice with ⟨_, vw, hρ, hx1⟩ | ⟨es, cap', vw, _, hρ, hx1, _, _⟩ | ⟨hl1, _, a', hx1⟩
              · rw [hρ] at hρ0; cases hρ0; exact ⟨_, _, hx1, hrun⟩
              · rw [hρ] at hρ0; cases hρ0; exact ⟨_, _, hx1, hrun⟩
              · rw [hl1] at hl0; cases hl0
          obtain ⟨a', cap', hx1, hrun⟩ := key
          subst hx1
          refine ⟨_, ρ, w, [], ?_, .string _, hr, .refl _ _ _⟩
          rw [run_convert_bytes_string w src dst e _ _ _ hs1 he1 hd1, run_bytesToString w _ _ _ _ hrun, foldl_push_ints, hns2]
          rfl
      · cases h
    · cases h
  · cases h
end
end Go.Rx
