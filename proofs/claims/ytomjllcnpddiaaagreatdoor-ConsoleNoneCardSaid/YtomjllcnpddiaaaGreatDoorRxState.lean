/- Steps of the abstract state: a new block, a block turned, a name dropped. -/
import Derived.Test.YtomjllcnpddiaaaGreatDoorRxRel
set_option linter.unusedSimpArgs false
set_option linter.unusedVariables false
set_option linter.unusedSectionVars false
namespace Go.Rx
open Go

def Ren.set (ρ : Ren) (b : Nat) (v : View) : Ren := fun x => if x = b then some v else ρ x
theorem Ren.set_same (ρ : Ren) (b : Nat) (v : View) : ρ.set b v b = some v := by simp [Ren.set]
theorem Ren.set_ne (ρ : Ren) {b x : Nat} (v : View) (h : x ≠ b) : ρ.set b v x = ρ x := by simp [Ren.set, h]
theorem Ren.sub_set {ρ : Ren} {b : Nat} {v : View} (h : ρ b = none) : Sub ρ (ρ.set b v) := by
  intro x u hx
  by_cases e : x = b
  · subst e; rw [h] at hx; cases hx
  · rw [Ren.set_ne ρ v e]; exact hx

section
variable {G : Nat} {ρ : Ren} {s : St} {w : World}

theorem Rep.lt {b : Nat} {e : Ent} (h : Rep G ρ s w) (hb : s.h.get b = some e) : b < s.next := by
  obtain ⟨v, o, h1, _, _⟩ := h.live b e hb
  rcases Nat.lt_or_ge b s.next with h2 | h2
  · exact h2
  · rw [h.fresh b h2] at h1; cases h1
theorem Rep.blk_lt {v : View} {o : Obj} (hv : w.heap[v.blk]? = some o) : v.blk < w.heap.size := (Array.getElem?_eq_some_iff.1 hv).1

/-- The log alone. -/
theorem Rep.relog (h : Rep G ρ s w) (l : List Nat) : Rep G ρ ⟨s.h, s.next, l⟩ w := ⟨h.live, h.inj, h.fresh, h.glob, h.within⟩
theorem Rep.drawn (h : Rep G ρ s w) (n : Nat) : Rep G ρ s { w with drawn := n } := ⟨h.live, h.inj, h.fresh, h.glob, h.within⟩

/-- A new block. -/
theorem Rep.new (h : Rep G ρ s w) {e : Ent} {o : Obj} {v : View} (hv : v.blk = w.heap.size) (ho : OR (ρ.set s.next v) v e o) :
    Rep G (ρ.set s.next v) (s.new e) (w.alloc o) ∧ Ext ρ s w (ρ.set s.next v) (s.new e) (w.alloc o) [] := by
  have hf := h.fresh s.next (Nat.le_refl _)
  have hsub := Ren.sub_set (v := v) hf
  have hget : ∀ b, (s.new e).h.get b = if b = s.next then some e else s.h.get b := fun b => PT.get_set _ _ _ _
  have hold : ∀ k, k < w.heap.size → (w.alloc o).heap[k]? = w.heap[k]? := fun k hk => by
    show (w.heap.push o)[k]? = _
    rw [Array.getElem?_push, if_neg (by omega)]
  have hnew : (w.alloc o).heap[w.heap.size]? = some o := by
    show (w.heap.push o)[w.heap.size]? = _
    rw [Array.getElem?_push, if_pos rfl]
  refine ⟨⟨?_, ?_, ?_, ?_, ?_⟩, ⟨?_, ?_, ?_, ?_, ?_, rfl, rfl, rfl, ?_, ?_⟩⟩
  · intro b e' hb
    rw [hget] at hb
    by_cases hbe : b = s.next
    · rw [if_pos hbe] at hb; cases hb
      subst hbe
      exact ⟨v, o, Ren.set_same _ _ _, by rw [hv]; exact hnew, ho⟩
    · rw [if_neg hbe] at hb
      obtain ⟨u, o', h1, h2, h3⟩ := h.live b e' hb
      exact ⟨u, o', hsub _ _ h1, by rw [hold _ (Rep.blk_lt h2)]; exact h2, h3.mono hsub⟩
  · intro b b' e1 e2 v1 v2 hb hb' hv1 hv2 heq
    rw [hget] at hb hb'
    by_cases h1 : b = s.next
    · by_cases h2 : b' = s.next
      · rw [h1, h2]
      · rw [if_neg h2] at hb'
        rw [h1, Ren.set_same] at hv1; cases hv1
        rw [Ren.set_ne _ _ h2] at hv2
        obtain ⟨u, o', h3, h4, _⟩ := h.live b' e2 hb'
        rw [h3] at hv2; cases hv2
        have := Rep.blk_lt h4
        omega
    · rw [if_neg h1] at hb
      rw [Ren.set_ne _ _ h1] at hv1
      by_cases h2 : b' = s.next
      · rw [h2, Ren.set_same] at hv2; cases hv2
        obtain ⟨u, o', h3, h4, _⟩ := h.live b e1 hb
        rw [h3] at hv1; cases hv1
        have := Rep.blk_lt h4
        omega
      · rw [if_neg h2] at hb'
        rw [Ren.set_ne _ _ h2] at hv2
        exact h.inj b b' e1 e2 v1 v2 hb hb' hv1 hv2 heq
  · intro b hb
    have : s.next + 1 ≤ b := hb
    rw [Ren.set_ne _ _ (by omega)]
    exact h.fresh b (by omega)
  · intro g hg
    have := h.within
    obtain ⟨u, h1, h2⟩ := h.glob g hg
    exact ⟨u, hsub _ _ h1, h2⟩
  · have := h.within
    show G ≤ s.next + 1
    omega
  · intro b hb; exact Ren.set_ne _ _ (by omega)
  · exact Nat.le_succ _
  · rfl
  · intro n _ hn
    rw [hget]
    rcases hn with hn | hn
    · rw [if_neg (by omega)]
    · have : s.next + 1 ≤ n := hn
      rw [if_neg (by omega)]
  · simp
  · intro k hk _; exact hold k hk
  · intro b' e' v' hb' hv' hlt
    rw [hget] at hb'
    by_cases h1 : b' = s.next
    · rw [h1, Ren.set_same] at hv'; cases hv'; omega
    · rw [if_neg h1] at hb'
      rw [Ren.set_ne _ _ h1] at hv'
      exact ⟨b', e', v', hb', hv', rfl, .inl rfl⟩

/-- A block turned in place: its name keeps. -/
theorem Rep.put (h : Rep G ρ s w) {b : Nat} {e e' : Ent} {v : View} {o' : Obj} {w' : World} (hb : s.h.get b = some e) (hv : ρ b = some v)
    (hw : w'.heap[v.blk]? = some o') (ho : OR ρ v e' o') (hsize : w'.heap.size = w.heap.size) (hoth : ∀ k, k ≠ v.blk → w'.heap[k]? = w.heap[k]?)
    (hos : w'.os = w.os) (htape : w'.tape = w.tape) (hout : w'.output = w.output) :
    Rep G ρ (s.put b (some e')) w' ∧ Ext ρ s w ρ (s.put b (some e')) w' [b] := by
  have hget : ∀ x, (s.put b (some e')).h.get x = if x = b then some e' else s.h.get x := fun x => PT.get_set _ _ _ _
  refine ⟨⟨?_, ?_, h.fresh, h.glob, h.within⟩, ⟨fun _ _ => rfl, Nat.le_refl _, rfl, ?_, by omega, hos, htape, hout, ?_, ?_⟩⟩
  · intro x ex hx
    rw [hget] at hx
    by_cases hxb : x = b
    · rw [if_pos hxb] at hx; cases hx
      subst hxb
      exact ⟨v, o', hv, hw, ho⟩
    · rw [if_neg hxb] at hx
      obtain ⟨u, o, h1, h2, h3⟩ := h.live x ex hx
      refine ⟨u, o, h1, ?_, h3⟩
      rw [hoth _ fun he => hxb (h.inj x b ex e u v hx hb h1 hv he)]
      exact h2
  · intro x y ex ey vx vy hx hy hvx hvy heq
    rw [hget] at hx hy
    have live : ∀ z ez, (if z = b then some e' else s.h.get z) = some ez → ∃ e0, s.h.get z = some e0 := fun z ez hz => by
      by_cases hzb : z = b
      · subst hzb; exact ⟨e, hb⟩
      · rw [if_neg hzb] at hz; exact ⟨ez, hz⟩
    obtain ⟨e1, h1⟩ := live x ex hx
    obtain ⟨e2, h2⟩ := live y ey hy
    exact h.inj x y e1 e2 vx vy h1 h2 hvx hvy heq
  · intro n hn _
    rw [hget, if_neg (by simpa using hn)]
  · intro k _ hk
    exact hoth k fun he => hk b (by simp) e v hb hv he.symm
  · intro b' ex v' hx hv' _
    rw [hget] at hx
    by_cases hxb : b' = b
    · subst hxb; exact ⟨b', e, v', hb, hv', rfl, .inl rfl⟩
    · rw [if_neg hxb] at hx; exact ⟨b', ex, v', hx, hv', rfl, .inl rfl⟩

/-- A name dropped, and a new one that takes over its block. -/
theorem Rep.take (h : Rep G ρ s w) {b : Nat} {e e' : Ent} {v v' : View} {o' : Obj} {w' : World} (hb : s.h.get b = some e) (hv : ρ b = some v) (hvv : v'.blk = v.blk)
    (hw : w'.heap[v.blk]? = some o') (ho : OR (ρ.set s.next v') v' e' o') (hsize : w'.heap.size = w.heap.size) (hoth : ∀ k, k ≠ v.blk → w'.heap[k]? = w.heap[k]?)
    (hos : w'.os = w.os) (htape : w'.tape = w.tape) (hout : w'.output = w.output) :
    Rep G (ρ.set s.next v') ((s.put b none).new e') w' ∧ Ext ρ s w (ρ.set s.next v') ((s.put b none).new e') w' [b] := by
  have hf := h.fresh s.next (Nat.le_refl _)
  have hsub := Ren.sub_set (v := v') hf
  have hblt := h.lt hb
  have hget : ∀ x, ((s.put b none).new e').h.get x = if x = s.next then some e' else if x = b then none else s.h.get x := fun x => by
    show ((s.h.set b none).set s.next (some e')).get x = _
    rw [PT.get_set, PT.get_set]
  refine ⟨⟨?_, ?_, ?_, ?_, ?_⟩, ⟨?_, Nat.le_succ _, rfl, ?_, by omega, hos, htape, hout, ?_, ?_⟩⟩
  · intro x ex hx
    rw [hget] at hx
    by_cases h1 : x = s.next
    · rw [if_pos h1] at hx; cases hx
      subst h1
      exact ⟨v', o', Ren.set_same _ _ _, by rw [hvv]; exact hw, ho⟩
    · rw [if_neg h1] at hx
      by_cases h2 : x = b
      · rw [if_pos h2] at hx; cases hx
      · rw [if_neg h2] at hx
        obtain ⟨u, o, h3, h4, h5⟩ := h.live x ex hx
        refine ⟨u, o, hsub _ _ h3, ?_, h5.mono hsub⟩
        rw [hoth _ fun he => h2 (h.inj x b ex e u v hx hb h3 hv he)]
        exact h4
  · intro x y ex ey vx vy hx hy hvx hvy heq
    rw [hget] at hx hy
    rw [Ren.set] at hvx hvy
    by_cases h1 : x = s.next
    · by_cases h2 : y = s.next
      · rw [h1, h2]
      · rw [if_neg h2] at hy
        rw [if_pos h1] at hvx; cases hvx
        rw [if_neg h2] at hvy
        by_cases h3 : y = b
        · rw [if_pos h3] at hy; cases hy
        · rw [if_neg h3] at hy
          exact absurd (h.inj y b ey e vy v hy hb hvy hv (by omega)) h3
    · rw [if_neg h1] at hx hvx
      by_cases h2 : y = s.next
      · rw [if_pos h2] at hvy; cases hvy
        by_cases h3 : x = b
        · rw [if_pos h3] at hx; cases hx
        · rw [if_neg h3] at hx
          exact absurd (h.inj x b ex e vx v hx hb hvx hv (by omega)) h3
      · rw [if_neg h2] at hy hvy
        by_cases h3 : x = b
        · rw [if_pos h3] at hx; cases hx
        · by_cases h4 : y = b
          · rw [if_pos h4] at hy; cases hy
          · rw [if_neg h3] at hx; rw [if_neg h4] at hy
            exact h.inj x y ex ey vx vy hx hy hvx hvy heq
  · intro x hx
    have : s.next + 1 ≤ x := hx
    rw [Ren.set_ne _ _ (by omega)]
    exact h.fresh x (by omega)
  · intro g hg
    obtain ⟨u, h1, h2⟩ := h.glob g hg
    exact ⟨u, hsub _ _ h1, h2⟩
  · have := h.within
    show G ≤ s.next + 1
    omega
  · intro x hx; exact Ren.set_ne _ _ (by omega)
  · intro n hn hb'
    rw [hget]
    have h1 : n ≠ b := by simpa using hn
    rcases hb' with hb' | hb'
    · rw [if_neg (by omega), if_neg h1]
    · have : s.next + 1 ≤ n := hb'
      rw [if_neg (by omega), if_neg h1]
  · intro k _ hk
    exact hoth k fun he => hk b (by simp) e v hb hv he.symm
  · intro x ex vx hx hvx hlt
    rw [hget] at hx
    rw [Ren.set] at hvx
    by_cases h1 : x = s.next
    · rw [if_pos h1] at hvx; cases hvx
      exact ⟨b, e, v, hb, hv, hvv.symm, .inr (by simp)⟩
    · rw [if_neg h1] at hx hvx
      by_cases h2 : x = b
      · rw [if_pos h2] at hx; cases hx
      · rw [if_neg h2] at hx
        exact ⟨x, ex, vx, hx, hvx, rfl, .inl rfl⟩

/-- A name dropped. -/
theorem Rep.drop (h : Rep G ρ s w) {b : Nat} {e : Ent} (hb : s.h.get b = some e) : Rep G ρ (s.put b none) w ∧ Ext ρ s w ρ (s.put b none) w [b] := by
  have hget : ∀ x, (s.put b none).h.get x = if x = b then none else s.h.get x := fun x => PT.get_set _ _ _ _
  have keep : ∀ x ex, (s.put b none).h.get x = some ex → s.h.get x = some ex := fun x ex hx => by
    rw [hget] at hx
    by_cases h1 : x = b
    · rw [if_pos h1] at hx; cases hx
    · rw [if_neg h1] at hx; exact hx
  have hb' := hb
  refine ⟨⟨fun x ex hx => h.live x ex (keep x ex hx), fun x y ex ey vx vy hx hy => h.inj x y ex ey vx vy (keep x ex hx) (keep y ey hy), h.fresh, h.glob, h.within⟩,
    ⟨fun _ _ => rfl, Nat.le_refl _, rfl, ?_, Nat.le_refl _, rfl, rfl, rfl, fun _ _ _ => rfl, fun x ex vx hx hvx _ => ⟨x, ex, vx, keep x ex hx, hvx, rfl, .inl rfl⟩⟩⟩
  intro n hn _
  rw [hget, if_neg (by simpa using hn)]
end
end Go.Rx
