/- Operations of the model: those that touch no memory. -/
import Derived.Test.YtomjllcnpddiaaaGreatDoorRxTypes
set_option linter.unusedSimpArgs false
set_option linter.unusedVariables false
set_option linter.unusedSectionVars false
namespace Go.Rx
open Go

/-- What an operation leaves in its temporary. -/
def nextVal : Next → Option Value
  | .value v => some v
  | .skip => some undef
  | _ => none

section
variable {P : Program} {E : Env} {G : Nat} {ρ : Ren} {s s' : St} {w : World} {tm : List Value} {e : Operand → Value}

/-- What is known of the operands. -/
def Opd (E : Env) (ρ : Ren) (tm : List Value) (e : Operand → Value) (l : List Operand) : Prop := ∀ x ∈ l, ∀ v, ev E tm x = some v → VR ρ v (e x)

theorem Opd.evs {l : List Operand} : ∀ {vs : List Value}, Opd E ρ tm e l → evs E tm l = some vs → VL ρ vs (l.map e) := by
  induction l with
  | nil => intro vs _ h; cases h; exact .nil
  | cons x l ih =>
    intro vs h hv
    have hv' : ob (ev E tm x) (fun v => ob (Rx.evs E tm l) fun r => some (v :: r)) = some vs := hv
    rw [ob_eq_some] at hv'
    obtain ⟨v, h1, h2⟩ := hv'
    rw [ob_eq_some] at h2
    obtain ⟨r, h2, h3⟩ := h2
    cases h3
    exact .cons (h x (by simp) v h1) (ih (fun y hy => h y (by simp [hy])) h2)

/-- Pairs of a place and a value. -/
inductive PL (ρ : Ren) : List (Nat × Value) → List (Nat × Value) → Prop where
  | nil : PL ρ [] []
  | cons {i : Nat} {v v' : Value} {l l' : List (Nat × Value)} (h : VR ρ v v') (t : PL ρ l l') : PL ρ ((i, v) :: l) ((i, v') :: l')
theorem Opd.pairs {l : List (Nat × Operand)} : ∀ {vs : List (Nat × Value)}, Opd E ρ tm e (l.map (·.2)) → evPairs E tm l = some vs → PL ρ vs (l.map fun x => (x.1, e x.2)) := by
  induction l with
  | nil => intro vs _ h; cases h; exact .nil
  | cons x l ih =>
    intro vs h hv
    have hv' : ob (ev E tm x.2) (fun v => ob (evPairs E tm l) fun r => some ((x.1, v) :: r)) = some vs := hv
    rw [ob_eq_some] at hv'
    obtain ⟨v, h1, h2⟩ := hv'
    rw [ob_eq_some] at h2
    obtain ⟨r, h2, h3⟩ := h2
    cases h3
    exact .cons (h x.2 (by simp) v h1) (ih (fun y hy => h y (by simp at hy ⊢; exact .inr hy)) h2)

/-! ### Pure runs -/
theorem pureRun_run {α : Type} : ∀ (m : Sem α) (a : α), pureRun P m = some a → m.run P w = .ok a w := by
  intro m
  induction m with
  | pure x => intro a h; simp [pureRun] at h; subst h; rfl
  | program k ih => intro a h; exact ih P a h
  | mark m k ih => intro a h; exact ih a h
  | _ => intro a h; simp [pureRun] at h

/-! ### Bounds -/
theorem boundA_sound {d m : Nat} {x : Option Value} {x' : Option Value} {n : Nat} (h : boundA d m x = some n) (hx : ∀ v, x = some v → ∃ v', x' = some v' ∧ VR ρ v v') (hn : x = none → x' = none) :
    n ≤ m ∧ ((x' = none ∧ n = d) ∨ ∃ k, x' = some (.int k (n : Int))) := by
  unfold boundA at h
  split at h
  · rw [chk_eq_some] at h
    obtain ⟨h1, h2⟩ := h
    cases h2
    exact ⟨Nat.le_of_ble_eq_true h1, .inl ⟨hn rfl, rfl⟩⟩
  · rename_i k q
    rw [chk_eq_some] at h
    obtain ⟨h1, h2⟩ := h
    cases h2
    obtain ⟨v', h3, h4⟩ := hx _ rfl
    cases h4
    exact ⟨Nat.le_of_ble_eq_true h1, .inr ⟨k, h3⟩⟩
  · cases h

theorem run_sliceBound {k : IntKind} {n m : Nat} {c : BoundsCode} (h : n ≤ m) : (Instr.sliceBound (.int k (n : Int)) m c).run P w = .ok n w := by
  have : (n : Int) ≤ m := by omega
  simp [Instr.sliceBound, asIntOf, this]

/-- The model's bounds, where the abstract ones stand: 'cap'' is at least 'cap'; just that where a third index is given, or they are one. -/
theorem bounds_sound {isSlice : Bool} {len cap cap' : Nat} {lo hi mx lo' hi' mx' : Option Value} {l h m : Nat} (hb : boundsA len cap lo hi mx = some (l, h, m)) (hc : cap ≤ cap')
    (hlo : ∀ v, lo = some v → ∃ v', lo' = some v' ∧ VR ρ v v') (hlo' : lo = none → lo' = none) (hhi : ∀ v, hi = some v → ∃ v', hi' = some v' ∧ VR ρ v v') (hhi' : hi = none → hi' = none)
    (hmx : ∀ v, mx = some v → ∃ v', mx' = some v' ∧ VR ρ v v') (hmx' : mx = none → mx' = none) :
    ∃ m', (Instr.sliceBounds isSlice len cap' lo' hi' mx').run P w = .ok (l, h, m') w ∧ l ≤ h ∧ h ≤ m ∧ m ≤ cap ∧ ((mx = none ∧ m = cap ∧ m' = cap') ∨ (mx ≠ none ∧ m' = m)) := by
  unfold boundsA at hb
  rw [ob_eq_some] at hb
  obtain ⟨m1, hm, hb⟩ := hb
  rw [ob_eq_some] at hb
  obtain ⟨h1, hh, hb⟩ := hb
  rw [ob_eq_some] at hb
  obtain ⟨l1, hl, hb⟩ := hb
  cases hb
  obtain ⟨hm1, hm2⟩ := boundA_sound hm hmx hmx'
  obtain ⟨hl1, hl2⟩ := boundA_sound hl hlo hlo'
  have lowRun : ∀ c : BoundsCode, (match lo' with | some v => Instr.sliceBound v h c | none => (pure 0 : Sem Nat)).run P w = .ok l w := fun c => by
    rcases hl2 with ⟨hl2, hl3⟩ | ⟨k, hl2⟩
    · subst hl3; simp [hl2]
    · rw [hl2]; exact run_sliceBound hl1
  cases hmxe : mx with
  | none =>
    subst hmxe
    have hmn : mx' = none := hmx' rfl
    rcases hm2 with ⟨_, hm3⟩ | ⟨k, hm3⟩
    · subst hm3
      simp only at hh
      have hh' : boundA len m hi = some h := by cases hi <;> exact hh
      obtain ⟨hh1, hh2⟩ := boundA_sound hh' hhi hhi'
      refine ⟨cap', ?_, hl1, hh1, Nat.le_refl _, .inl ⟨rfl, rfl, rfl⟩⟩
      rcases hh2 with ⟨hh2, hh3⟩ | ⟨k, hh2⟩
      · subst hh3
        rcases hl2 with ⟨hl2, hl3⟩ | ⟨k, hl2⟩
        · subst hl3; simp [Instr.sliceBounds, hmn, hh2, hl2]
        · simp [Instr.sliceBounds, hmn, hh2, hl2, run_sliceBound hl1]
      · rcases hl2 with ⟨hl2, hl3⟩ | ⟨k', hl2⟩
        · subst hl3; simp [Instr.sliceBounds, hmn, hh2, hl2, run_sliceBound (show h ≤ cap' by omega)]
        · simp [Instr.sliceBounds, hmn, hh2, hl2, run_sliceBound (show h ≤ cap' by omega), run_sliceBound hl1]
    · rw [hmn] at hm3; cases hm3
  | some v =>
    subst hmxe
    rcases hm2 with ⟨hm3, _⟩ | ⟨k, hm3⟩
    · obtain ⟨v', h2, _⟩ := hmx v rfl
      rw [hm3] at h2; cases h2
    · cases hie : hi with
      | none => rw [hie] at hh; simp at hh
      | some u =>
        rw [hie] at hh
        simp only at hh
        obtain ⟨hh1, hh2⟩ := boundA_sound (x := some u) hh (by rw [← hie]; exact hhi) (fun e => by cases e)
        refine ⟨m, ?_, hl1, hh1, hm1, .inr ⟨by simp, rfl⟩⟩
        rcases hh2 with ⟨hh2, _⟩ | ⟨k', hh2⟩
        · obtain ⟨v', h2, _⟩ := hhi u hie
          rw [hh2] at h2; cases h2
        · rcases hl2 with ⟨hl2, hl3⟩ | ⟨k'', hl2⟩
          · subst hl3; simp [Instr.sliceBounds, hm3, hh2, hl2, run_sliceBound (show m ≤ cap' by omega), run_sliceBound hh1]
          · simp [Instr.sliceBounds, hm3, hh2, hl2, run_sliceBound (show m ≤ cap' by omega), run_sliceBound hh1, run_sliceBound hl1]
end
end Go.Rx
