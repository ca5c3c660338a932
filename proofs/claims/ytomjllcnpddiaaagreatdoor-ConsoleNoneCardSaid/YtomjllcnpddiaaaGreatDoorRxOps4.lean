/- Operations of the model: maps. -/
import Derived.Test.YtomjllcnpddiaaaGreatDoorRxOps3
set_option linter.unusedSimpArgs false
set_option linter.unusedVariables false
set_option linter.unusedSectionVars false
namespace Go.Rx
open Go

section
variable {P : Program} {E : Env} {G : Nat} {ρ : Ren} {s s' : St} {w : World}

theorem keyFits_scalar {d : TD} {v : Value} (h : keyFits d v = true) : scalar v = true := by
  unfold keyFits at h
  split at h <;> first | rfl | cases h

/-- The first entry with a key, from an index on. -/
def idx (k : Value) : List MapEntry → Nat → Option (Nat × Value)
  | [], _ => none
  | e :: es, i => if sameKey k e.key then some (i, e.val) else idx k es (i + 1)

theorem findNow_eq {d : TypeDesc} {td : TD} (hd : TD.of d = td) {k : Value} (hk : keyFits td k = true) : ∀ (es : List MapEntry) (i : Nat), (∀ e ∈ es, keyFits td e.key = true) →
    Instr.findNow d k es i = some (idx k es i) := by
  intro es
  induction es with
  | nil => intro i _; rfl
  | cons e es ih =>
    intro i h
    have he := h e (by simp)
    have hr := ih (i + 1) fun x hx => h x (by simp [hx])
    have hsame : Instr.sameNow d k e.key = some (sameKey k e.key) := by
      generalize hkk : e.key = kk at he
      unfold keyFits at hk he
      split at hk
      · rename_i q q' n
        have hd' := TD.of_int hd; subst hd'
        have h1 : q = q' := by simpa using hk
        split at he
        · rename_i q1 q2 n2 heq
          cases heq
          have h2 : q = q2 := by simpa using he
          subst h1; subst h2
          simp [Instr.sameNow, sameKey]
        · rename_i heq; cases heq
        · rename_i heq; cases heq
        · cases he
      · have hd' := TD.of_string hd; subst hd'
        split at he
        · rename_i heq; cases heq
        · simp [Instr.sameNow, sameKey]
        · rename_i heq; cases heq
        · cases he
      · have hd' := TD.of_bool hd; subst hd'
        split at he
        · rename_i heq; cases heq
        · rename_i heq; cases heq
        · simp [Instr.sameNow, sameKey]
        · cases he
      · cases hk
    simp only [Instr.findNow, hsame, idx]
    cases hb : sameKey k e.key with
    | true => simp
    | false => simp [hr]

theorem run_getObj {r : Nat} {o : Obj} (h : w.heap[r]? = some o) (hn : ∀ c e f, o ≠ .cells c e f) : (getObj r).run P w = .ok o w := by
  unfold getObj
  rw [Sem.run, h]
  cases o <;> first | rfl | exact absurd rfl (hn _ _ _)
theorem run_setObj {r : Nat} {o o' : Obj} (h : w.heap[r]? = some o) (hn : ∀ c e f, o ≠ .cells c e f) : (setObj r o').run P w = .ok () { w with heap := w.heap.setIfInBounds r o' } := by
  unfold setObj
  rw [Sem.run, h]
  cases o <;> first | rfl | exact absurd rfl (hn _ _ _)

theorem checkKey_ok {t : TypeId} {i : TI} (ht : TyOk P t i) {v : Value} (hv : keyFits i.desc v = true) (b : Bool) (n : Nat) : (Instr.checkKey b (n + 1) t v).run P w = .ok () w := by
  obtain ⟨d, hd, hu⟩ := ht.run_under (w := w)
  unfold keyFits at hv
  split at hv
  · rename_i hdesc; rw [hdesc] at hd; have hd' := TD.of_int hd; subst hd'
    simp [Instr.checkKey, hu]
  · rename_i hdesc; rw [hdesc] at hd; have hd' := TD.of_string hd; subst hd'
    simp [Instr.checkKey, hu]
  · rename_i hdesc; rw [hdesc] at hd; have hd' := TD.of_bool hd; subst hd'
    simp [Instr.checkKey, hu]
  · cases hv

theorem findKey_ok {t : TypeId} {i : TI} (ht : TyOk P t i) {k : Value} (hk : keyFits i.desc k = true) {es : List MapEntry} (he : ∀ e ∈ es, keyFits i.desc e.key = true) :
    (Instr.findKey t k es).run P w = .ok (idx k es 0) w := by
  obtain ⟨d, hd, hu⟩ := ht.run_under (w := w)
  simp only [Instr.findKey, Sem.run_bind, hu, Result.andThen_ok, findNow_eq hd hk es 0 he, Sem.run_pure]

theorem EL.keys {es es' : List MapEntry} (h : EL ρ es es') {d : TD} (hf : es.all (fun e => keyFits d e.key) = true) : (∀ e ∈ es', keyFits d e.key = true) ∧ es'.map (·.key) = es.map (·.key) := by
  induction h with
  | nil => exact ⟨fun e he => by simp at he, rfl⟩
  | cons h _ ih =>
    rename_i e e' l l' _
    simp only [List.all_cons, Bool.and_eq_true] at hf
    have hk := h.key.scalar_eq (keyFits_scalar hf.1)
    obtain ⟨h1, h2⟩ := ih hf.2
    refine ⟨?_, by simp [hk, h2]⟩
    intro x hx
    rcases List.mem_cons.1 hx with rfl | hx
    · rw [hk]; exact hf.1
    · exact h1 x hx

theorem find_sound {es es' : List MapEntry} (h : EL ρ es es') {d : TD} (hf : es.all (fun e => keyFits d e.key) = true) {k : Value} : ∀ (i : Nat),
    match findA k es with
    | some v => ∃ j v', idx k es' i = some (j, v') ∧ VR ρ v v'
    | none => idx k es' i = none := by
  induction h with
  | nil => intro i; rfl
  | cons h _ ih =>
    rename_i e e' l l' _
    intro i
    simp only [List.all_cons, Bool.and_eq_true] at hf
    have hk := h.key.scalar_eq (keyFits_scalar hf.1)
    show match sel (sameKey k e.key) (some e.val) (findA k l) with
      | some v => ∃ j v', idx k (e' :: l') i = some (j, v') ∧ VR ρ v v'
      | none => idx k (e' :: l') i = none
    cases hb : sameKey k e.key with
    | true => exact ⟨i, e'.val, by simp [idx, hk, hb], h.val⟩
    | false =>
      have := ih hf.2 (i + 1)
      simp only [sel_false, idx, hk, hb]
      exact this

theorem entries_sound (h : Rep G ρ s w) {d : TD} {m m' : Value} {es : List MapEntry} (he : entriesA s d m = some es) (hm : VR ρ m m') :
    es.all (fun e => keyFits d e.key) = true ∧ ∃ es' : List MapEntry, EL ρ es es' ∧ ((m' = .map none ∧ es' = []) ∨ ∃ r clock, m' = .map (some r) ∧ w.heap[r]? = some (.map ⟨es'⟩ clock)) := by
  unfold entriesA at he
  split at he
  · cases he; cases hm
    exact ⟨rfl, [], .nil, .inl ⟨rfl, rfl⟩⟩
  · cases hm with
    | map hρ =>
      rename_i r v
      split at he
      · rename_i es0 clock hg
        rw [chk_eq_some, alln_eq] at he
        obtain ⟨h1, h2⟩ := he
        cases h2
        obtain ⟨v', o, h3, h4, h5⟩ := h.live r _ hg
        rw [hρ] at h3; cases h3
        cases h5 with
        | map hel => exact ⟨h1, _, hel, .inr ⟨_, _, rfl, h4⟩⟩
      · cases he
  · cases he

theorem lookupA_sound (hE : E.Ok P) (h : Rep G ρ s w) {t : TypeId} {m m' k k' v : Value} {ok : Bool} (hl : lookupA E s t m k ok = some v) (hm : VR ρ m m') (hk : VR ρ k k') :
    ∃ v', VR ρ v v' ∧ (Instr.lookup t m' k' ok).run P w = .ok v' w := by
  unfold lookupA at hl
  rw [ob_eq_some] at hl
  obtain ⟨ti, hti, hl⟩ := hl
  have ht := hE.ty t ti hti
  obtain ⟨d, hd, hu⟩ := ht.run_under (w := w)
  split at hl
  · rename_i kt et hdesc
    rw [hdesc] at hd
    have hd' := TD.of_map hd
    subst hd'
    rw [ob_eq_some] at hl
    obtain ⟨ki, hki, hl⟩ := hl
    rw [ob_eq_some] at hl
    obtain ⟨ei, hei, hl⟩ := hl
    have htk := hE.ty kt ki hki
    have hte := hE.ty et ei hei
    rw [chk_eq_some] at hl
    obtain ⟨hkf, hl⟩ := hl
    rw [ob_eq_some] at hl
    obtain ⟨es, hes, hl⟩ := hl
    have hk' := hk.scalar_eq (keyFits_scalar hkf)
    subst hk'
    obtain ⟨hall, es', hel, hrun⟩ := entries_sound h hes hm
    obtain ⟨hkeys, _⟩ := hel.keys hall
    have hck := checkKey_ok (w := w) htk hkf (es'.isEmpty) 9999
    have hck' : (Instr.checkKey (⟨es'⟩ : Array MapEntry).isEmpty 10000 kt k').run P w = .ok () w := by
      cases es' <;> exact hck
    have hfk := findKey_ok (w := w) htk hkf hkeys
    have hfind := find_sound hel hall (k := k') 0
    have realS : ∀ (q : Nat × Value), (Instr.findKey kt k' es').run P w = .ok (some q) w → (Instr.lookup t m' k' ok).run P w = .ok (if ok then .tuple #[q.2, .bool true] else q.2) w := by
      intro q hr
      rcases hrun with ⟨rfl, rfl⟩ | ⟨rr, clock, rfl, hw⟩
      · have hck'' : (Instr.checkKey true 10000 kt k').run P w = .ok () w := hck'
        simp only [Instr.lookup, Sem.run_bind, hu, Result.andThen_ok, Sem.run_pure, List.isEmpty_toArray, List.isEmpty_nil, hck'', hr]
      · have hg := run_getObj (P := P) hw (by simp)
        simp only [Instr.lookup, Sem.run_bind, hu, Result.andThen_ok, Sem.run_pure, hg, hck', hr]
    have realN : (Instr.findKey kt k' es').run P w = .ok none w → (Instr.lookup t m' k' ok).run P w = .ok (if ok then .tuple #[zeroV ei, .bool false] else zeroV ei) w := by
      intro hr
      have hzr := hte.run_zero (w := w)
      rcases hrun with ⟨rfl, rfl⟩ | ⟨rr, clock, rfl, hw⟩
      · have hck'' : (Instr.checkKey true 10000 kt k').run P w = .ok () w := hck'
        simp only [Instr.lookup, Sem.run_bind, hu, Result.andThen_ok, Sem.run_pure, List.isEmpty_toArray, List.isEmpty_nil, hck'', hr, hzr]
      · have hg := run_getObj (P := P) hw (by simp)
        simp only [Instr.lookup, Sem.run_bind, hu, Result.andThen_ok, Sem.run_pure, hg, hck', hr, hzr]
    split at hl
    · rename_i u hu2
      rw [hu2] at hfind
      obtain ⟨j, u', hi, hvr⟩ := hfind
      rw [hi] at hfk
      cases hl
      cases ok with
      | true =>
        refine ⟨.tuple #[u', .bool true], .tuple (.cons hvr (.cons (.bool true) .nil)), ?_⟩
        rw [realS _ hfk]
        rfl
      | false =>
        refine ⟨u', hvr, ?_⟩
        rw [realS _ hfk]
        rfl
    · rename_i hu2
      rw [hu2] at hfind
      rw [ob_eq_some] at hl
      obtain ⟨z, hz, hl⟩ := hl
      have hzz : z = zeroV ei := by
        unfold zeroA at hz
        unfold zeroV
        cases ha : ei.desc.agg with
        | true => rw [ha, sel_true] at hz; cases hz; rfl
        | false =>
          rw [ha, sel_false, nth_eq] at hz
          simp only [Bool.false_eq_true, if_false]
          rw [List.head?_eq_getElem?, hz]
          rfl
      have hvz : VR ρ z (zeroV ei) := by
        rw [hzz]
        unfold zeroV
        split
        · exact .agg (.of_scalars hte.zsc)
        · rename_i ha
          have h1 := hte.one (by simpa using ha)
          have h2 := hte.zlen
          rw [h1] at h2
          obtain ⟨x, hx⟩ := List.length_eq_one_iff.1 h2
          have h3 := hte.zsc
          rw [hx] at h3 ⊢
          simp at h3
          exact .of_scalar h3
      rw [hfind] at hfk
      cases hl
      cases ok with
      | true =>
        refine ⟨.tuple #[zeroV ei, .bool false], .tuple (.cons hvz (.cons (.bool false) .nil)), ?_⟩
        rw [realN hfk]
        rfl
      | false =>
        refine ⟨zeroV ei, hvz, ?_⟩
        rw [realN hfk]
        rfl
  · cases hl

theorem ba_eq {a b : ByteArray} (h : (a == b) = true) : a = b := by
  obtain ⟨a⟩ := a
  obtain ⟨b⟩ := b
  have h' : (a == b) = true := h
  rw [eq_of_beq h']
theorem ba_refl (a : ByteArray) : (a == a) = true := by
  obtain ⟨a⟩ := a
  exact (beq_self_eq_true a : (a == a) = true)

theorem sameBits_of {d : TD} {k k' : Value} (h : keyFits d k = true) (h' : keyFits d k' = true) (hs : sameKey k k' = true) : Instr.sameBits 10000 k' k = true ∧ k' = k := by
  unfold keyFits at h h'
  split at h
  · rename_i q q' n
    have h1 : q = q' := by simpa using h
    split at h'
    · rename_i q1 q2 n2 heq
      cases heq
      have h2 : q = q2 := by simpa using h'
      subst h1; subst h2
      have h3 : n = n2 := by simpa [sameKey] using hs
      subst h3
      exact ⟨by simp [Instr.sameBits], rfl⟩
    · rename_i heq; cases heq
    · rename_i heq; cases heq
    · cases h'
  · split at h'
    · rename_i heq; cases heq
    · have h3 := ba_eq hs
      subst h3
      exact ⟨ba_refl _, rfl⟩
    · rename_i heq; cases heq
    · cases h'
  · split at h'
    · rename_i heq; cases heq
    · rename_i heq; cases heq
    · have h3 := hs
      simp only [sameKey, beq_iff_eq] at h3
      subst h3
      exact ⟨by simp [Instr.sameBits], rfl⟩
    · cases h'
  · cases h

/-- A store of an entry: what stands behind it. -/
theorem store_sound {es es' : List MapEntry} (h : EL ρ es es') {d : TD} (hf : es.all (fun e => keyFits d e.key) = true) {k v v' : Value} (hk : keyFits d k = true) (hv : VR ρ v v') (clock : Nat) : ∀ (i : Nat),
    match idx k es' i with
    | some (j, _) => i ≤ j ∧ hasA k es = true ∧ ∃ e, es'[j - i]? = some e ∧ keyFits d e.key = true ∧ sameKey k e.key = true ∧
        EL ρ (storeA k v clock es) (es'.modify (j - i) fun e => { e with key := k, val := v' })
    | none => hasA k es = false ∧ EL ρ (storeA k v clock es) (es' ++ [{ key := k, val := v', born := clock }]) := by
  induction h with
  | nil => intro i; exact ⟨rfl, .cons ⟨.of_scalar (keyFits_scalar hk), hv, rfl⟩ .nil⟩
  | cons h t ih =>
    rename_i e e' l l'
    intro i
    simp only [List.all_cons, Bool.and_eq_true] at hf
    have hke := h.key.scalar_eq (keyFits_scalar hf.1)
    have e1 : storeA k v clock (e :: l) = sel (sameKey k e.key) (⟨k, v, e.born⟩ :: l) (e :: storeA k v clock l) := rfl
    have e2 : hasA k (e :: l) = sel (sameKey k e.key) true (hasA k l) := rfl
    rw [e1, e2]
    cases hb : sameKey k e.key with
    | true =>
      simp only [idx, hke, hb, if_true, sel_true, Nat.le_refl, Nat.sub_self, true_and]
      refine ⟨e', rfl, by rw [hke]; exact hf.1, by rw [hke]; exact hb, ?_⟩
      exact .cons ⟨.of_scalar (keyFits_scalar hk), hv, h.born⟩ t
    | false =>
      have hi := ih hf.2 (i + 1)
      simp only [idx, hke, hb, sel_false]
      simp only [Bool.false_eq_true, if_false]
      cases hx : idx k l' (i + 1) with
      | none => rw [hx] at hi; exact ⟨hi.1, .cons h hi.2⟩
      | some q =>
        obtain ⟨j, u⟩ := q
        rw [hx] at hi
        obtain ⟨h1, h2, e0, h3, h4, h5, h6⟩ := hi
        refine ⟨by omega, h2, e0, ?_, h4, h5, ?_⟩
        · rw [show j - i = (j - (i + 1)) + 1 by omega]; simpa using h3
        · rw [show j - i = (j - (i + 1)) + 1 by omega]
          exact .cons h h6

theorem heap_setObj {w : World} {r : Nat} {o o' : Obj} (h : w.heap[r]? = some o) : ({ w with heap := w.heap.setIfInBounds r o' } : World).heap[r]? = some o' ∧
    (∀ k, k ≠ r → ({ w with heap := w.heap.setIfInBounds r o' } : World).heap[k]? = w.heap[k]?) := by
  have hlt := (Array.getElem?_eq_some_iff.1 h).1
  refine ⟨by simp [hlt], fun k hk => ?_⟩
  simp [Ne.symm hk]

theorem mapUpdateA_sound (hE : E.Ok P) (h : Rep G ρ s w) {t : TypeId} {m m' k k' v v' : Value} (hl : mapUpdateA E s t m k v = some s') (hm : VR ρ m m') (hk : VR ρ k k') (hv : VR ρ v v') :
    ∃ w' b, (Instr.mapUpdate t m' k' v').run P w = .ok () w' ∧ Rep G ρ s' w' ∧ Ext ρ s w ρ s' w' [b] := by
  unfold mapUpdateA at hl
  rw [ob_eq_some] at hl
  obtain ⟨ti, hti, hl⟩ := hl
  have ht := hE.ty t ti hti
  obtain ⟨d, hd, hu⟩ := ht.run_under (w := w)
  split at hl
  · rename_i kt et r hdesc
    rw [hdesc] at hd
    have hd' := TD.of_map hd
    subst hd'
    rw [ob_eq_some] at hl
    obtain ⟨ki, hki, hl⟩ := hl
    have htk := hE.ty kt ki hki
    rw [chk_eq_some] at hl
    obtain ⟨hkf, hl⟩ := hl
    have hk' := hk.scalar_eq (keyFits_scalar hkf)
    subst hk'
    cases hm with
    | map hρ =>
      rename_i vw
      split at hl
      · rename_i es clock hg
        rw [chk_eq_some, alln_eq] at hl
        obtain ⟨hall, hl⟩ := hl
        cases hl
        obtain ⟨v0, o, h3, h4, h5⟩ := h.live r _ hg
        rw [hρ] at h3; cases h3
        cases h5 with
        | map hel =>
          rename_i es'
          obtain ⟨hkeys, _⟩ := hel.keys hall
          have hget := run_getObj (P := P) h4 (by simp)
          have hck : (Instr.checkKey false 10000 kt k').run P w = .ok () w := checkKey_ok htk hkf false 9999
          have hfk := findKey_ok (w := w) htk hkf hkeys
          have hst := store_sound hel hall hkf hv clock 0
          cases hx : idx k' es' 0 with
          | none =>
            rw [hx] at hst hfk
            have hso := run_setObj (P := P) (o' := .map ((⟨es'⟩ : Array MapEntry).push { key := k', val := v', born := clock }) (clock + 1)) h4 (by simp)
            obtain ⟨g1, g2⟩ := heap_setObj (o' := .map ((⟨es'⟩ : Array MapEntry).push { key := k', val := v', born := clock }) (clock + 1)) h4
            obtain ⟨hr, he⟩ := h.put hg hρ (e' := .map (storeA k' v clock es) (sel (hasA k' es) clock (Nat.succ clock))) g1 (by
              rw [hst.1, sel_false]
              have : ((⟨es'⟩ : Array MapEntry).push { key := k', val := v', born := clock }) = ⟨es' ++ [{ key := k', val := v', born := clock }]⟩ := by apply Array.ext'; simp
              rw [this]
              exact .map hst.2) (by simp) g2 rfl rfl rfl
            refine ⟨_, r, ?_, hr, he⟩
            simp only [Instr.mapUpdate, Sem.run_bind, hu, Result.andThen_ok, hget, hck, hfk, hso]
          | some q =>
            obtain ⟨j, u⟩ := q
            rw [hx] at hst hfk
            obtain ⟨_, h6, e0, h7, h8, h9, h10⟩ := hst
            simp only [Nat.sub_zero] at h7 h10
            obtain ⟨hsb, hke⟩ := sameBits_of hkf h8 h9
            have hkts : (Instr.keyThatStays ((((⟨es'⟩ : Array MapEntry)[j]?).map (·.key)).getD k') k').run P w = .ok k' w := by
              have : (((⟨es'⟩ : Array MapEntry)[j]?).map (·.key)).getD k' = e0.key := by simp [h7]
              rw [this]
              simp [Instr.keyThatStays, hsb]
            have hso := run_setObj (P := P) (o' := .map ((⟨es'⟩ : Array MapEntry).modify j fun e => { e with key := k', val := v' }) clock) h4 (by simp)
            obtain ⟨g1, g2⟩ := heap_setObj (o' := .map ((⟨es'⟩ : Array MapEntry).modify j fun e => { e with key := k', val := v' }) clock) h4
            obtain ⟨hr, he⟩ := h.put hg hρ (e' := .map (storeA k' v clock es) (sel (hasA k' es) clock (Nat.succ clock))) g1 (by
              rw [h6, sel_true]
              have : ((⟨es'⟩ : Array MapEntry).modify j fun e => { e with key := k', val := v' }) = ⟨es'.modify j fun e => { e with key := k', val := v' }⟩ := by
                apply Array.ext'; simp
              rw [this]
              exact .map h10) (by simp) g2 rfl rfl rfl
            refine ⟨_, r, ?_, hr, he⟩
            simp only [Instr.mapUpdate, Sem.run_bind, hu, Result.andThen_ok, hget, hck, hfk, hkts, hso]
      · cases hl
  · cases hl

/-- An entry dropped. -/
theorem drop_sound {es es' : List MapEntry} (h : EL ρ es es') {d : TD} (hf : es.all (fun e => keyFits d e.key) = true) {k : Value} : ∀ (i : Nat),
    match idx k es' i with
    | some (j, _) => i ≤ j ∧ j - i < es'.length ∧ EL ρ (dropA k es) (es'.eraseIdx (j - i))
    | none => EL ρ (dropA k es) es' := by
  induction h with
  | nil => intro i; exact .nil
  | cons h t ih =>
    rename_i e e' l l'
    intro i
    simp only [List.all_cons, Bool.and_eq_true] at hf
    have hke := h.key.scalar_eq (keyFits_scalar hf.1)
    have e1 : dropA k (e :: l) = sel (sameKey k e.key) l (e :: dropA k l) := rfl
    rw [e1]
    cases hb : sameKey k e.key with
    | true =>
      simp only [idx, hke, hb, if_true, sel_true, Nat.le_refl, Nat.sub_self, true_and]
      exact ⟨by simp, t⟩
    | false =>
      have hi := ih hf.2 (i + 1)
      simp only [idx, hke, hb, sel_false]
      simp only [Bool.false_eq_true, if_false]
      cases hx : idx k l' (i + 1) with
      | none => rw [hx] at hi; exact .cons h hi
      | some q =>
        obtain ⟨j, u⟩ := q
        rw [hx] at hi
        obtain ⟨h1, h2, h3⟩ := hi
        refine ⟨by omega, by simp; omega, ?_⟩
        rw [show j - i = (j - (i + 1)) + 1 by omega]
        exact .cons h h3
end
end Go.Rx
