/- Operations of the model: equality, binary operations, maps. -/
import Derived.Test.YtomjllcnpddiaaaGreatDoorRxOps2
set_option linter.unusedSimpArgs false
set_option linter.unusedVariables false
set_option linter.unusedSectionVars false
namespace Go.Rx
open Go

section
variable {P : Program} {E : Env} {ρ : Ren} {w : World}

set_option maxHeartbeats 4000000 in
theorem eqA_sound' (hE : E.Ok P) (dp : Nat) {t : TypeId} {i : TI} (ht : TyOk P t i) {x y x' y' : Value} {b : Bool} (h : eqA E.ty i.desc x y = some b) (hx : VR ρ x x') (hy : VR ρ y y') :
    (Op.equalIn (dp + 1) t x' y').run P w = .ok b w := by
  obtain ⟨d, hd, hu⟩ := ht.run_under (w := w)
  unfold eqA at h
  split at h
  · rename_i hdesc; rw [hdesc] at hd; have hd' := TD.of_bool hd; subst hd'
    cases hx; cases hy; cases h
    simp [Op.equalIn, hu]
  · rename_i hdesc; rw [hdesc] at hd; have hd' := TD.of_pointer hd; subst hd'
    cases hx
    cases h
    cases hy <;> simp [Op.equalIn, hu]
  · rename_i hdesc; rw [hdesc] at hd; have hd' := TD.of_pointer hd; subst hd'
    cases hy
    cases h
    cases hx; simp [Op.equalIn, hu]
  · rename_i e a c hdesc; rw [hdesc] at hd; have hd' := TD.of_pointer hd; subst hd'
    rw [ob_eq_some] at h
    obtain ⟨ei, hei, h⟩ := h
    rw [chk_eq_some, chk_eq_some, chk_eq_some, chk_eq_some] at h
    obtain ⟨h1, h2, h3, h4, h5⟩ := h
    cases h5
    have hsz : 0 < ei.size := Nat.le_of_ble_eq_true h1
    have hbl := Nat.eq_of_beq_eq_true h2
    have hte := hE.ty e ei hei
    cases hx with
    | ptr hρ =>
      rename_i b1 o1 v1
      cases hy with
      | ptr hρ' =>
        rename_i b2 o2 v2
        simp only at hbl
        subst hbl
        rw [hρ] at hρ'; cases hρ'
        have hne : ei.size ≠ 0 := by omega
        simp only [Op.equalIn, hu, Sem.run_bind, Result.andThen_ok, hte.run_size, Sem.run_ite, sameAddr]
        rw [if_pos hne]
        simp only [beq_self_eq_true, if_true, Sem.run_pure]
        congr 1
        by_cases ho : o1 = o2
        · subst ho; simp
        · rw [beq_ne ho]
          simp [ho]
  · rename_i hdesc; rw [hdesc] at hd; have hd' := TD.of_slice hd; subst hd'
    cases hx
    cases h
    cases hy <;> simp [Op.equalIn, hu]
  · rename_i hdesc; rw [hdesc] at hd; have hd' := TD.of_slice hd; subst hd'
    cases hy
    cases h
    cases hx <;> simp [Op.equalIn, hu]
  · rename_i hdesc; rw [hdesc] at hd; have hd' := TD.of_map hd; subst hd'
    cases hx
    cases h
    cases hy <;> simp [Op.equalIn, hu]
  · rename_i hdesc; rw [hdesc] at hd; have hd' := TD.of_map hd; subst hd'
    cases hy
    cases h
    cases hx; simp [Op.equalIn, hu]
  · rename_i hdesc; rw [hdesc] at hd; obtain ⟨_, _, _, hd'⟩ := TD.of_func hd; subst hd'
    cases hx; cases hy; cases h
    simp [Op.equalIn, hu]
  · rename_i hdesc; rw [hdesc] at hd; obtain ⟨_, _, _, hd'⟩ := TD.of_func hd; subst hd'
    cases hx
    cases h
    cases hy <;> simp [Op.equalIn, hu]
  · rename_i hdesc; rw [hdesc] at hd; obtain ⟨_, _, _, hd'⟩ := TD.of_func hd; subst hd'
    cases hy
    cases h
    cases hx <;> simp [Op.equalIn, hu]
  · rename_i hdesc; rw [hdesc] at hd; obtain ⟨_, hd'⟩ := TD.of_interface hd; subst hd'
    cases hx; cases hy; cases h
    simp [Op.equalIn, hu]
  · rename_i hdesc; rw [hdesc] at hd; obtain ⟨_, hd'⟩ := TD.of_interface hd; subst hd'
    cases hx; cases hy; cases h
    simp [Op.equalIn, hu]
  · rename_i hdesc; rw [hdesc] at hd; obtain ⟨_, hd'⟩ := TD.of_interface hd; subst hd'
    cases hy; cases hx; cases h
    simp [Op.equalIn, hu]
  · cases h

theorem eqA_sound (hE : E.Ok P) {t : TypeId} {i : TI} (ht : TyOk P t i) {x y x' y' : Value} {b : Bool} (h : eqA E.ty i.desc x y = some b) (hx : VR ρ x x') (hy : VR ρ y y') :
    (Op.equal t x' y').run P w = .ok b w := eqA_sound' hE 9999 ht h hx hy

theorem eqGuard_ok {op : BinOp} {t : TypeId} {xo yo : Operand} {x y : Value} (h : (isConstO xo || isConstO yo) = true ∨ ¬ (x = .nilIface ∧ y = .nilIface)) (ha : (∀ l, x ≠ .agg l)) :
    (eqGuard op t xo yo x y).run P w = .ok () w := by
  unfold eqGuard
  have body : (match x, y with
    | .nilIface, .nilIface => do
      if (xo matches .const _) || (yo matches .const _) then return
      if ← Op.eqGuardIn Op.maxDepth t x y then unsupported (.noEntry "binop/eql: two nil values of an interface type with methods, neither of them the literal nil")
    | .agg _, .agg _ => do
      if !(← program).eqGuardType (← program).depth t then return
      if ← Op.eqGuardIn Op.maxDepth t x y then unsupported (.noEntry "binop/eql: two nil values of an interface type with methods, in a part of a struct or an array")
    | _, _ => (pure () : Sem Unit)).run P w = .ok () w := by
    split
    · rcases h with h | h
      · cases xo <;> cases yo <;> first
          | rfl
          | (exfalso; simp [isConstO] at h; done)
      · exact absurd ⟨rfl, rfl⟩ h
    · rename_i l _
      exact absurd rfl (ha _)
    · rfl
  cases op <;> first
    | exact body
    | rfl

theorem bin_scalar {op : BinOp} {t : TypeId} {xo yo : Operand} {x y u : Value} (h : ¬ (x = .nilIface ∧ y = .nilIface)) (ha : ∀ l, x ≠ .agg l) (hu : pureRun P (binOp op t x y) = some u) :
    (do eqGuard op t xo yo x y; binOp op t x y : Sem Value).run P w = .ok u w := by
  rw [Sem.run_bind, eqGuard_ok (.inr h) ha]
  exact pureRun_run _ _ hu

theorem binA_sound (hE : E.Ok P) {op : BinOp} {t : TypeId} {xo yo : Operand} {x y x' y' v : Value} (h : binA P E op t xo yo x y = some v) (hx : VR ρ x x') (hy : VR ρ y y') :
    ∃ v', VR ρ v v' ∧ (do eqGuard op t xo yo x' y'; binOp op t x' y' : Sem Value).run P w = .ok v' w := by
  unfold binA at h
  -- equality
  have eqs : ∀ (x y x' y' : Value), VR ρ x x' → VR ρ y y' → (eqGuard op t xo yo x' y').run P w = .ok () w →
      (∀ k n, ¬ (x' = .int k n)) → (∀ s, x' ≠ .string s) → (∀ k n, x' ≠ .float k n) → (∀ k n m, x' ≠ .complex k n m) →
      (ob (E.ty t) fun i => match op with
        | .eql => ob (eqA E.ty i.desc x y) fun b => some (.bool b)
        | .neq => ob (eqA E.ty i.desc x y) fun b => some (.bool (!b))
        | _ => none) = some v →
      ∃ v', VR ρ v v' ∧ (do eqGuard op t xo yo x' y'; binOp op t x' y' : Sem Value).run P w = .ok v' w := by
    intro x y x' y' hx hy hg hni hns hnf hnc h
    rw [ob_eq_some] at h
    obtain ⟨i, hi, h⟩ := h
    have ht := hE.ty t i hi
    split at h
    · rw [ob_eq_some] at h
      obtain ⟨b, hb, h⟩ := h
      cases h
      have he := eqA_sound (w := w) hE ht hb hx hy
      refine ⟨_, .bool b, ?_⟩
      simp only [Sem.run_bind, hg, Result.andThen_ok]
      cases x' <;> first
        | exact absurd rfl (hni _ _)
        | exact absurd rfl (hns _)
        | exact absurd rfl (hnf _ _)
        | exact absurd rfl (hnc _ _ _)
        | (cases y' <;> simp [binOp, he])
    · rw [ob_eq_some] at h
      obtain ⟨b, hb, h⟩ := h
      cases h
      have he := eqA_sound (w := w) hE ht hb hx hy
      refine ⟨_, .bool (!b), ?_⟩
      simp only [Sem.run_bind, hg, Result.andThen_ok]
      cases x' <;> first
        | exact absurd rfl (hni _ _)
        | exact absurd rfl (hns _)
        | exact absurd rfl (hnf _ _)
        | exact absurd rfl (hnc _ _ _)
        | (cases y' <;> simp [binOp, he])
    · cases h
  split at h
  · rw [ob_eq_some] at h
    obtain ⟨u, hu, h⟩ := h
    rw [chk_eq_some] at h
    obtain ⟨hs, h⟩ := h
    cases h
    cases hx; cases hy
    exact ⟨_, .of_scalar hs, bin_scalar (by simp) (by simp) hu⟩
  · rw [ob_eq_some] at h
    obtain ⟨u, hu, h⟩ := h
    rw [chk_eq_some] at h
    obtain ⟨hs, h⟩ := h
    cases h
    cases hx; cases hy
    exact ⟨_, .of_scalar hs, bin_scalar (by simp) (by simp) hu⟩
  · rw [chk_eq_some] at h
    obtain ⟨hc, h⟩ := h
    cases hx; cases hy
    refine eqs .nilIface .nilIface _ _ .nilIface .nilIface (eqGuard_ok (.inl ?_) (by simp)) (by simp) (by simp) (by simp) (by simp) h
    cases hxo : isConstO xo with
    | true => rfl
    | false => rw [hxo, sel_false] at hc; rw [hc]; rfl
  · rename_i hn1 hn2 hn3
    have hnn : ¬ (x' = .nilIface ∧ y' = .nilIface) := by
      rintro ⟨rfl, rfl⟩
      cases hx; cases hy
      exact hn3 rfl rfl
    -- an equality of this kind has no aggregate and no number or string
    have h0 := h
    rw [ob_eq_some] at h0
    obtain ⟨i, hi, h0⟩ := h0
    have some_eq : ∃ b, eqA E.ty i.desc x y = some b := by
      split at h0
      · rw [ob_eq_some] at h0; obtain ⟨b, hb, _⟩ := h0; exact ⟨b, hb⟩
      · rw [ob_eq_some] at h0; obtain ⟨b, hb, _⟩ := h0; exact ⟨b, hb⟩
      · cases h0
    obtain ⟨b, hb⟩ := some_eq
    have shape : (∀ l, x' ≠ .agg l) ∧ (∀ k n, ¬ (x' = .int k n)) ∧ (∀ s, x' ≠ .string s) ∧ (∀ k n, x' ≠ .float k n) ∧ (∀ k n m, x' ≠ .complex k n m) := by
      unfold eqA at hb
      cases hx <;> first
        | (refine ⟨?_, ?_, ?_, ?_, ?_⟩ <;> (intros; intro he; cases he; done))
        | (exfalso; split at hb <;> first | (rename_i he _; cases he; done) | (rename_i he; cases he; done) | (cases hb; done) | simp_all)
    exact eqs x y x' y' hx hy (eqGuard_ok (.inr hnn) shape.1) shape.2.1 shape.2.2.1 shape.2.2.2.1 shape.2.2.2.2 h
end
end Go.Rx
