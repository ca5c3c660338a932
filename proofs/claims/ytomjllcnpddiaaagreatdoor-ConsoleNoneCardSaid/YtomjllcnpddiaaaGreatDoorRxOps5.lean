/- Operations of the model: append, copy. -/
import Derived.Test.YtomjllcnpddiaaaGreatDoorRxOps4
import Derived.Laws.Append
import Derived.Laws.BitsLemmas
set_option linter.unusedSimpArgs false
set_option linter.unusedVariables false
set_option linter.unusedSectionVars false
namespace Go.Rx
open Go

theorem byteVals_eq (l : List UInt8) : byteVals l = l.map fun c => .int .u8 (.ofNat c.toNat) := by
  induction l with
  | nil => rfl
  | cons c l ih => show _ :: byteVals l = _; rw [ih]; rfl

section
variable {P : Program} {E : Env} {G : Nat} {ρ : Ren} {s s' : St} {w : World}

theorem byteVals_vl (l : List UInt8) : VL ρ (byteVals l) (byteVals l) := by
  rw [byteVals_eq]
  refine .of_scalars ?_
  rw [List.all_map]
  simp [scalar]

theorem run_firstCells {v : Value} {size n : Nat} {l : List Value} (h : firstCellsA s size n v = some l) (hr : Rep G ρ s w) {v' : Value} (hv : VR ρ v v') :
    ∃ l', VL ρ l l' ∧ ∀ w2 : World, w2.heap = w.heap → (Builtin.firstCells size n v').run P w2 = .ok ⟨l'⟩ w2 := by
  unfold firstCellsA at h
  split at h
  · rename_i a len cap
    by_cases hn : n = 0
    · subst hn
      rw [show Nat.beq 0 0 = true from rfl, sel_true] at h
      cases h
      refine ⟨[], .nil, fun w2 _ => ?_⟩
      cases hv <;> simp [Builtin.firstCells, run_loadCells_zero]
    · rw [beq_ne hn, sel_false, chk_eq_some] at h
      obtain ⟨hle, h⟩ := h
      have hle' : n ≤ len := Nat.le_of_ble_eq_true hle
      obtain ⟨v0, l', hρ, hlen, hvl, hc⟩ := loadN_sound hr h
      have key : ∀ (len' cap' : Nat) (w2 : World), w2.heap = w.heap → (Builtin.firstCells size n (.slice (some ⟨v0.blk, v0.base + a.off, none⟩) len' cap')).run P w2 = .ok ⟨l'⟩ w2 := by
        intro len' cap' w2 hw2
        have hc2 : ∀ j x, l'[j]? = some x → w2.cell? ⟨v0.blk, v0.base + a.off + j, none⟩ = some x := fun j x hx => by
          have := hc j x hx
          unfold World.cell? at this ⊢
          rw [hw2]
          exact this
        have hrun := run_loadCells (P := P) hc2
        rw [← hvl.length, hlen] at hrun
        simpa [Builtin.firstCells] using hrun
      cases hv with
      | slice hρ' => rw [hρ] at hρ'; cases hρ'; exact ⟨l', hvl, key _ _⟩
      | openS hρ' hc' ha' => rw [hρ] at hρ'; cases hρ'; exact ⟨l', hvl, key _ _⟩
      | zero _ a' => omega
  · rename_i len cap
    by_cases hn : n = 0
    · subst hn
      rw [show Nat.beq 0 0 = true from rfl, sel_true] at h
      cases h
      refine ⟨[], .nil, fun w2 _ => ?_⟩
      cases hv <;> simp [Builtin.firstCells]
    · rw [beq_ne hn, sel_false] at h
      cases h
  · rename_i b
    cases h
    cases hv
    refine ⟨_, byteVals_vl _, fun w2 _ => ?_⟩
    simp only [Builtin.firstCells, Sem.run_pure]
    congr 1
    apply Array.ext'
    rw [byteVals_eq]
    simp
  · cases h

theorem repeatList_eq (l : List Value) : ∀ n, repeatList l n = (List.replicate n l).flatten := by
  intro n
  induction n with
  | zero => rfl
  | succ n ih => rw [repeatList, appn_eq, ih, List.replicate_succ, List.flatten_cons]
theorem repeatList_len (l : List Value) (n : Nat) : (repeatList l n).length = n * l.length := by
  rw [repeatList_eq]; simp
theorem repeatList_get (l : List Value) (n i : Nat) (h : i < n * l.length) : (repeatList l n)[i]? = l[i % l.length]? := by
  induction n generalizing i with
  | zero => simp at h
  | succ n ih =>
    rw [repeatList, appn_eq]
    by_cases h1 : i < l.length
    · rw [List.getElem?_append_left h1, Nat.mod_eq_of_lt h1]
    · rw [List.getElem?_append_right (by omega), ih _ (by rw [Nat.succ_mul] at h; omega)]
      congr 1
      exact (Nat.mod_eq_sub_mod (by omega)).symm
/-- The model's row of zeros. -/
theorem zeroCells_eq (z : List Value) (n : Nat) : (Builtin.zeroCells ⟨z⟩ n).toList = repeatList z n := by
  apply List.ext_getElem?
  intro i
  unfold Builtin.zeroCells
  by_cases h : i < n * z.length
  · rw [repeatList_get z n i h]
    have hz : 0 < z.length := by
      rcases Nat.eq_zero_or_pos z.length with h0 | h0
      · rw [h0] at h; simp at h
      · exact h0
    have hm := Nat.mod_lt i hz
    simp [Array.getElem?_toList, h, hm]
  · have h1 : (repeatList z n)[i]? = none := by rw [List.getElem?_eq_none_iff, repeatList_len]; omega
    rw [h1]
    simp [Array.getElem?_toList]
    omega
theorem repeat_vl {l : List Value} (h : l.all scalar = true) (n : Nat) : VL ρ (repeatList l n) (repeatList l n) := by
  induction n with
  | zero => exact .nil
  | succ n ih => rw [repeatList, appn_eq]; exact (VL.of_scalars h).append ih

/-- How many are appended, and their cells, whatever has been drawn. -/
inductive NewIs (P : Program) (w : World) (size bytes : Nat) (e u : TypeId) (z : List Value) (y' : Value) (n : Nat) (l' : List Value) : Prop where
  | cells (d : TypeDesc) (hu : P.underlying u = some d) (hd : ∀ k, d ≠ .int k) (hn : ∀ w2 : World, (Builtin.lenOf y').run P w2 = .ok n w2)
      (hl : ∀ w2 : World, w2.heap = w.heap → (Builtin.firstCells size n y').run P w2 = .ok ⟨l'⟩ w2)
  | zeros (k : IntKind) (hu : P.underlying u = some (.int k)) (hy : y' = .int .i64 (n : Int)) (hn : n ≤ 1048576) (hb : bytes ≤ 1048576) (hl : l' = repeatList z n)

theorem lenOf_sound {y y' : Value} {n : Nat} (h : lenOfA y = some n) (hy : VR ρ y y') (w2 : World) : (Builtin.lenOf y').run P w2 = .ok n w2 := by
  unfold lenOfA at h
  split at h
  · cases h; cases hy <;> simp [Builtin.lenOf]
  · cases h; cases hy; simp [Builtin.lenOf]
  · cases h

theorem newA_sound (hr : Rep G ρ s w) {e u : TypeId} {ei ui : TI} (hte : TyOk P e ei) (htu : TyOk P u ui) {y y' : Value} {n : Nat} {l : List Value} (h : newA s ei ui.desc y = some (n, l)) (hy : VR ρ y y') :
    ∃ l', VL ρ l l' ∧ NewIs P w ei.size ei.bytes e u ei.zero y' n l' := by
  unfold newA at h
  obtain ⟨d, hd, hd2⟩ := htu.under
  have cells : (∀ k, d ≠ .int k) → (ob (lenOfA y) fun n => ob (firstCellsA s ei.size n y) fun l => some (n, l)) = some (n, l) → ∃ l', VL ρ l l' ∧ NewIs P w ei.size ei.bytes e u ei.zero y' n l' := by
    intro hdi h
    rw [ob_eq_some] at h
    obtain ⟨m, hm, h⟩ := h
    rw [ob_eq_some] at h
    obtain ⟨q, hq, h⟩ := h
    cases h
    obtain ⟨l', h1, h2⟩ := run_firstCells (P := P) hq hr hy
    exact ⟨l', h1, .cells d hd hdi (lenOf_sound hm hy) h2⟩
  split at h
  · rename_i k m hdesc
    rw [hdesc] at hd2
    have := TD.of_int hd2; subst this
    rw [chk_eq_some, chk_eq_some] at h
    obtain ⟨h1, h2, h⟩ := h
    cases h
    cases hy
    exact ⟨_, repeat_vl hte.zsc _, .zeros k hd rfl (Nat.le_of_ble_eq_true h1) (Nat.le_of_ble_eq_true h2) rfl⟩
  · rename_i hdesc
    rw [hdesc] at hd2
    have := TD.of_slice hd2; subst this
    exact cells (fun k hk => by cases hk) h
  · rename_i hdesc
    rw [hdesc] at hd2
    have := TD.of_string hd2; subst this
    exact cells (fun k hk => by cases hk) h
  · cases h

theorem wrap_small {n : Nat} (h : n ≤ 1048576) : IntKind.i64.wrap (n : Int) = (n : Int) := by
  rw [IntKind.wrap_i64]
  omega

theorem match_int {α : Type} (d : TypeDesc) (hd : ∀ k, d ≠ .int k) (x y : α) : (match d with | .int _ => x | _ => y) = y := by
  cases d <;> first | exact absurd rfl (hd _) | rfl

theorem bytes_small {n b : Nat} (h : n ≤ 1048576) (hb : b ≤ 1048576) : n * b ≤ 1099511627776 := Nat.mul_le_mul h hb
theorem zeros_run {e : TypeId} {ei : TI} (hte : TyOk P e ei) {n : Nat} (w2 : World) :
    (do if n * ei.size = 0 then pure #[] else do pure (Builtin.zeroCells (← zeroValue e).cells n) : Sem (Array Value)).run P w2 = .ok ⟨repeatList ei.zero n⟩ w2 := by
  have h := zeroCells_eq ei.zero n
  split
  · rename_i h0
    have : repeatList ei.zero n = [] := by
      rw [← List.length_eq_zero_iff, repeatList_len, hte.zlen]; exact h0
    simp [this]
  · simp only [Sem.run_bind, hte.run_zero, Result.andThen_ok, Sem.run_pure, zeroV_cells hte]
    rw [← h]

/-- An append that finds room. -/
theorem run_append_room {t u ty e : TypeId} {ei : TI} (ht : P.underlying t = some (.slice e)) (hte : TyOk P e ei) {y' : Value} {n len cap : Nat} {l' : List Value} (hnew : NewIs P w ei.size ei.bytes e u ei.zero y' n l')
    (hroom : len + n ≤ cap) (base : Option Addr) :
    (Builtin.append_ #[t, u] ty #[.slice base len cap, y']).run P w =
      (match base with
        | some a => do storeCells (a.add (len * ei.size)) l'; pure (.slice base (len + n) cap)
        | none => pure (.slice base (len + n) cap) : Sem Value).run P w := by
  have ht' : ∀ w2 : World, (underlying t).run P w2 = .ok (.slice e) w2 := fun w2 => by simp [underlying, ht]
  cases hnew with
  | cells d hu hd hn hf =>
    have hu' : ∀ w2 : World, (underlying u).run P w2 = .ok d w2 := fun w2 => by simp [underlying, hu]
    simp [Builtin.append_, ht', hu', hte.run_size, match_int d hd, hn, hroom, hf w rfl]
    cases base <;> simp
  | zeros k hu hy hn hb hf =>
    have hu' : ∀ w2 : World, (underlying u).run P w2 = .ok (.int k) w2 := fun w2 => by simp [underlying, hu]
    obtain ⟨f, hf1, hf2, hf3, hf4⟩ := hte.run_info (w := w)
    have hz := zeros_run hte (n := n) w
    have hbs := bytes_small hn hb
    have hneg : ¬ ((n : Int) < 0) := by omega
    have hbig : ¬ ((n : Int) * (f.bytes : Int) > 2 ^ 48) := by
      rw [hf2]
      have : ((n * ei.bytes : Nat) : Int) ≤ 1099511627776 := by omega
      rw [Int.natCast_mul] at this
      omega
    subst hy
    subst hf
    simp only [Builtin.append_, ht', hu', hte.run_size, asInt, asIntOf, Sem.run_bind, Sem.run_pure, Result.andThen_ok, List.getElem?_toArray, List.getElem?_cons_zero, List.getElem?_cons_succ, Sem.run_ite, if_true, wrap_small hn]
    rw [if_neg hneg]
    simp only [hf4, Result.andThen_ok]
    rw [if_neg hbig]
    simp only [Int.toNat_natCast, hroom, if_true, Bool.not_true, Bool.false_eq_true, if_false]
    simp only [Sem.run_bind, Sem.run_ite, Sem.run_pure] at hz
    rw [hz]
    cases base <;> simp

/-- An append that must grow. -/
theorem run_append_more {t u ty e : TypeId} {ei : TI} (ht : P.underlying t = some (.slice e)) (hte : TyOk P e ei) {y' : Value} {n len cap : Nat} {l' : List Value} (hnew : NewIs P w ei.size ei.bytes e u ei.zero y' n l')
    (hroom : cap < len + n) (hb0 : 0 < ei.bytes) (hfit : (len + n) * ei.bytes ≤ 1099511627776) (base : Option Addr) {old : List Value}
    (hold : ∀ w2 : World, w2.heap = w.heap → (Builtin.firstCells ei.size len (.slice base len cap)).run P w2 = .ok ⟨old⟩ w2) :
    (Builtin.append_ #[t, u] ty #[.slice base len cap, y']).run P w =
      .ok (.slice (some ⟨w.heap.size, 0, none⟩) (len + n) (grownCap w (len + n) cap e))
        (w.drew.alloc (.cells ⟨old ++ l' ++ repeatList ei.zero (grownCap w (len + n) cap e - (len + n))⟩ e)) := by
  have ht' : ∀ w2 : World, (underlying t).run P w2 = .ok (.slice e) w2 := fun w2 => by simp [underlying, ht]
  have hz := fun m => zeroCells_eq ei.zero m
  have hneed : len + n ≤ 1099511627776 := Nat.le_trans (Nat.le_mul_of_pos_right _ hb0) hfit
  have hbig := growslice_fits (need := len + n) (old := cap) (bytes := ei.bytes) hroom (by omega)
  have h48 : ¬ (Builtin.nextslicecap (len + n) cap * ei.bytes > 2 ^ 48) := by omega
  have h63 : ¬ (((len + n : Nat) : Int) > 9223372036854775807) := by omega
  have hnr : ¬ (len + n ≤ cap) := by omega
  obtain ⟨f, hf0, hf1, hf2, hf3⟩ := hte.info
  have hf4 : ∀ w2 : World, (typeInfo e).run P w2 = .ok f w2 := fun w2 => by simp [typeInfo, hf0]
  have hzc := zeroV_cells hte
  have h63' : ¬ (9223372036854775807 < ((len : Int) + (n : Int))) := by omega
  have h48' : ¬ (281474976710656 < Builtin.nextslicecap (len + n) cap * ei.bytes) := by omega
  have hb1 : ei.bytes ≠ 0 := by omega
  have hold' := hold w.drew rfl
  cases hnew with
  | cells d hu hd hn hf =>
    have hu' : ∀ w2 : World, (underlying u).run P w2 = .ok d w2 := fun w2 => by simp [underlying, hu]
    have hf' := hf w.drew rfl
    simp [Builtin.append_, ht', hu', hte.run_size, match_int d hd, hn, hnr, hf4, hf2, h63', h48', hb1, Question.forced, hold', hf', hte.run_zero, hzc, newRow, grownCap]
    congr 2
    apply Array.ext'
    simp [hz]
  | zeros k hu hy hn hb hf =>
    have hu' : ∀ w2 : World, (underlying u).run P w2 = .ok (.int k) w2 := fun w2 => by simp [underlying, hu]
    have hbs := bytes_small hn hb
    have hneg : ¬ ((n : Int) < 0) := by omega
    have hbig : ¬ (281474976710656 < (n : Int) * (ei.bytes : Int)) := by
      have : ((n * ei.bytes : Nat) : Int) ≤ 1099511627776 := by omega
      rw [Int.natCast_mul] at this
      omega
    subst hy
    subst hf
    simp [Builtin.append_, ht', hu', hte.run_size, hnr, hf4, hf2, h63', h48', hb1, Question.forced, hold', asInt, asIntOf, wrap_small hn, hneg, hbig, hte.run_zero, hzc, newRow, grownCap]
    split
    · rename_i h0
      have h0 : repeatList ei.zero n = [] := by
        rw [← List.length_eq_zero_iff, repeatList_len, hte.zlen]
        exact h0
      rw [h0]
      congr 3
      apply Array.ext'
      simp [hz]
    · congr 3
      apply Array.ext'
      simp [hz]

theorem VR.of_slice {a : Addr} {len cap : Nat} {x' : Value} (h : VR ρ (.slice (some a) len cap) x') :
    (a.spot = none ∧ ∃ v, ρ a.block = some v ∧ x' = .slice (some ⟨v.blk, v.base + a.off, none⟩) len cap) ∨
    (∃ es cap' v, a.spot = some es ∧ ρ a.block = some v ∧ x' = .slice (some ⟨v.blk, v.base + a.off, none⟩) len cap' ∧ cap ≤ cap' ∧ a.off + cap' * es ≤ v.avail) ∨
    (len = 0 ∧ cap = 0 ∧ ∃ a', x' = .slice (some a') 0 0) := by
  cases h with
  | slice h => exact .inl ⟨rfl, _, h, rfl⟩
  | openS h hc ha => exact .inr (.inl ⟨_, _, _, rfl, h, rfl, hc, ha⟩)
  | zero _ a' => exact .inr (.inr ⟨rfl, rfl, a', rfl⟩)

/-- A piece of the model does what the evaluator says. -/
def Gives (P : Program) (G : Nat) (ρ : Ren) (s : St) (w : World) (m : Sem Value) (v : Value) (s' : St) : Prop :=
  ∃ v' ρ' w' l, m.run P w = .ok v' w' ∧ VR ρ' v v' ∧ Rep G ρ' s' w' ∧ Ext ρ s w ρ' s' w' l

theorem le_grownCap (w : World) (need old : Nat) (e : TypeId) : need ≤ grownCap w need old e := by
  simp only [grownCap, Question.cut]
  omega

/-- The block of a growing append. -/
theorem grow_sound (hr : Rep G ρ s w) {e : TypeId} {ei : TI} (hte : TyOk P e ei) {fz need : Nat} {cs cs' : List Value} (hv : VL ρ cs cs') (hlen : cs.length = need * ei.size) {v : Value}
    (h : growA s e ei fz need cs = some (v, s')) {cap : Nat} (hc : need ≤ cap) :
    ∃ ρ', VR ρ' v (.slice (some ⟨w.heap.size, 0, none⟩) need cap) ∧ Rep G ρ' s' (w.drew.alloc (.cells ⟨cs' ++ repeatList ei.zero (cap - need)⟩ e)) ∧
      Ext ρ s w ρ' s' (w.drew.alloc (.cells ⟨cs' ++ repeatList ei.zero (cap - need)⟩ e)) [] := by
  unfold growA at h
  rw [chk_eq_some] at h
  obtain ⟨_, h⟩ := h
  simp only [Option.some.injEq, Prod.mk.injEq] at h
  obtain ⟨rfl, rfl⟩ := h
  have hf := hr.fresh s.next (Nat.le_refl _)
  have hlen' : cs'.length = need * ei.size := by rw [← hv.length, hlen]
  have hmul : need * ei.size + (cap - need) * ei.size = cap * ei.size := by rw [← Nat.add_mul]; congr 1; omega
  have hsz : (cs' ++ repeatList ei.zero (cap - need)).length = cap * ei.size := by
    rw [List.length_append, repeatList_len, hte.zlen, hlen', hmul]
  have hdr : Rep G ρ s w.drew := hr.drawn _
  obtain ⟨h1, h2⟩ := hdr.new (e := .cells cs e (fz, fz) false) (o := .cells ⟨cs' ++ repeatList ei.zero (cap - need)⟩ e) (v := ⟨w.heap.size, 0, cap * ei.size⟩) rfl (by
    refine .cells (by simpa using hsz) (by rw [hlen]; exact Nat.mul_le_mul_right _ hc) ?_ (fun hx => by cases hx) (.inl ⟨rfl, rfl⟩)
    intro i x hx
    obtain ⟨x', h1, h2⟩ := hv.get hx
    have hi : i < cs'.length := (List.getElem?_eq_some_iff.1 h1).1
    refine ⟨x', ?_, (h2.mono (Ren.sub_set hf)).cr⟩
    simp only [Nat.zero_add, List.getElem?_toArray]
    rw [List.getElem?_append_left hi]
    exact h1)
  refine ⟨_, ?_, h1, (Ext.drawn ρ s w _).trans h2⟩
  have := VR.openS (ρ := ρ.set s.next ⟨w.heap.size, 0, cap * ei.size⟩) (b := s.next) (off := 0) (es := ei.size) (len := need) (cap := need) (cap' := cap) (Ren.set_same _ _ _) hc (by simp)
  simpa using this

theorem storeCells_nil (a : Addr) (i : Nat) : (storeCells a [] i).run P w = .ok () w := rfl

set_option maxHeartbeats 1000000 in
theorem appendA_sound (hE : E.Ok P) (hr : Rep G ρ s w) {t u ty : TypeId} {x x' y y' v : Value} (h : appendA E s t u x y = some (v, s')) (hx : VR ρ x x') (hy : VR ρ y y') :
    Gives P G ρ s w (Builtin.append_ #[t, u] ty #[x', y']) v s' := by
  unfold appendA at h
  rw [ob_eq_some] at h
  obtain ⟨ti, hti, h⟩ := h
  have htt := hE.ty t ti hti
  obtain ⟨d, hd, hd2⟩ := htt.under
  split at h
  · rename_i e hdesc
    rw [hdesc] at hd2
    have := TD.of_slice hd2; subst this
    rw [ob_eq_some] at h
    obtain ⟨ei, hei, h⟩ := h
    have hte := hE.ty e ei hei
    rw [ob_eq_some] at h
    obtain ⟨ui, hui, h⟩ := h
    have htu := hE.ty u ui hui
    rw [ob_eq_some] at h
    obtain ⟨⟨n, l⟩, hnew, h⟩ := h
    obtain ⟨l', hl, hnw⟩ := newA_sound hr hte htu hnew hy
    rw [chk_eq_some, chk_eq_some, chk_eq_some] at h
    obtain ⟨hone, hlen, hb0, h⟩ := h
    simp only at hone hlen h
    rw [lengthn_eq] at hlen
    have hlen := Nat.eq_of_beq_eq_true hlen
    have hlen : l.length = n * ei.size := hlen
    have hb0 : 0 < ei.bytes := Nat.le_of_ble_eq_true hb0
    -- a growing append
    have grow : ∀ (s1 : St) (fz len cap : Nat) (base : Option Addr) (old old' : List Value) (v : Value) (lg : List Nat), Rep G ρ s1 w → Ext ρ s w ρ s1 w lg → VL ρ old old' → old.length = len * ei.size →
        x' = .slice base len cap → cap < len + n → (∀ w2 : World, w2.heap = w.heap → (Builtin.firstCells ei.size len (.slice base len cap)).run P w2 = .ok ⟨old'⟩ w2) →
        growA s1 e ei fz (len + n) (appn old l) = some (v, s') → Gives P G ρ s w (Builtin.append_ #[t, u] ty #[x', y']) v s' := by
      intro s1 fz len cap base old old' v lg hr1 hex hov hol hx1 hneed hfc hg
      have hg' := hg
      unfold growA at hg'
      rw [chk_eq_some] at hg'
      have hfit : (len + n) * ei.bytes ≤ 1099511627776 := Nat.le_of_ble_eq_true hg'.1
      have hrun := run_append_more (ty := ty) hd hte hnw hneed hb0 hfit base hfc
      rw [appn_eq] at hg
      obtain ⟨ρ', h1, h2, h3⟩ := grow_sound hr1 hte (hov.append hl) (by rw [List.length_append, hol, hlen, Nat.add_mul]) hg (le_grownCap w (len + n) cap e)
      exact ⟨_, ρ', _, _, by rw [hx1, hrun], h1, h2, hex.trans h3⟩
    split at h
    · -- a nil slice
      cases hx
      cases hn : Nat.beq n 0 with
      | true =>
        have hn0 := Nat.eq_of_beq_eq_true hn
        subst hn0
        rw [hn, sel_true] at h
        cases h
        refine ⟨_, ρ, w, [], ?_, .nilSlice, hr, .refl _ _ _⟩
        rw [run_append_room (ty := ty) hd hte hnw (by omega) none]
        rfl
      | false =>
        rw [hn, sel_false] at h
        have hn0 : n ≠ 0 := fun h0 => by rw [h0] at hn; cases hn
        exact grow s 0 0 0 none [] [] v [] hr (.refl _ _ _) .nil (by simp) rfl (by omega) (fun w2 _ => by simp [Builtin.firstCells]) (by simpa [appn] using h)
    · rename_i a len cap
      cases hroom : Nat.ble (len + n) cap with
      | true =>
        have hroom' := Nat.le_of_ble_eq_true hroom
        rw [show Nat.ble (Nat.add len n) cap = true from hroom, sel_true] at h
        cases hn : Nat.beq n 0 with
        | true =>
          have hn0 := Nat.eq_of_beq_eq_true hn
          subst hn0
          rw [hn, sel_true] at h
          cases h
          have hl0 : l' = [] := by
            rw [← List.length_eq_zero_iff, ← hl.length, hlen]; simp
          subst hl0
          have key : ∀ (a' : Addr) (cap' : Nat), cap ≤ cap' → x' = .slice (some a') len cap' → (Builtin.append_ #[t, u] ty #[x', y']).run P w = .ok x' w := by
            intro a' cap' hc hx1
            subst hx1
            rw [run_append_room (ty := ty) hd hte hnw (by omega) (some a')]
            simp [storeCells_nil]
          refine ⟨x', ρ, w, [], ?_, hx, hr, .refl _ _ _⟩
          cases hx with
          | slice hρ => exact key _ _ (Nat.le_refl _) rfl
          | openS hρ hc ha => exact key _ _ hc rfl
          | zero _ a' => exact key _ _ (Nat.le_refl _) rfl
        | false =>
          rw [hn, sel_false, ob_eq_some] at h
          obtain ⟨s1, hs1, h⟩ := h
          cases h
          have hn0 : n ≠ 0 := fun h0 => by rw [h0] at hn; cases hn
          obtain ⟨v0, w', hρ0, hst, hr', he'⟩ := storeN_sound (P := P) hr hs1 hl
          have key : ∀ (cap' : Nat), cap ≤ cap' → x' = .slice (some ⟨v0.blk, v0.base + a.off, none⟩) len cap' → (Builtin.append_ #[t, u] ty #[x', y']).run P w = .ok (.slice (some ⟨v0.blk, v0.base + a.off, none⟩) (len + n) cap') w' := by
            intro cap' hc hx1
            subst hx1
            rw [run_append_room (ty := ty) hd hte hnw (by omega) (some _)]
            simp only [Sem.run_bind, add_plain]
            rw [show v0.base + a.off + len * ei.size = v0.base + (a.off + len * ei.size) by omega]
            have hst' : (storeCells ⟨v0.blk, v0.base + (a.off + len * ei.size), none⟩ l').run P w = .ok () w' := hst
            rw [hst']
            rfl
          obtain ⟨blk, off, sp⟩ := a
          cases hx with
          | slice hρ =>
            rw [hρ] at hρ0; cases hρ0
            exact ⟨_, ρ, w', _, key _ (Nat.le_refl _) rfl, .slice hρ, hr', he'⟩
          | openS hρ hc ha =>
            rw [hρ] at hρ0; cases hρ0
            exact ⟨_, ρ, w', _, key _ hc rfl, .openS hρ hc ha, hr', he'⟩
          | zero _ a' => exact absurd hroom' (by omega)
      | false =>
        have hroom' : ¬ (len + n ≤ cap) := fun hle => by rw [Nat.ble_eq_true_of_le hle] at hroom; cases hroom
        rw [show Nat.ble (Nat.add len n) cap = false from hroom, sel_false, ob_eq_some] at h
        obtain ⟨old, hold, h⟩ := h
        -- the elder cells
        have olds : ∃ old', VL ρ old old' ∧ old.length = len * ei.size ∧ (∀ (v0 : View), ρ a.block = some v0 → ∀ j x, old'[j]? = some x → w.cell? ⟨v0.blk, v0.base + a.off + j, none⟩ = some x) ∧ ∀ (v0 : View) (a' : Addr) (cap' : Nat), (len ≠ 0 → ρ a.block = some v0 ∧ a' = ⟨v0.blk, v0.base + a.off, none⟩) →
            (∀ w2 : World, w2.heap = w.heap → (Builtin.firstCells ei.size len (.slice (some a') len cap')).run P w2 = .ok ⟨old'⟩ w2) := by
          cases hl0 : Nat.beq len 0 with
          | true =>
            have hl0' := Nat.eq_of_beq_eq_true hl0
            subst hl0'
            rw [hl0, sel_true] at hold
            cases hold
            exact ⟨[], .nil, by simp, fun v0 _ j x hx => by simp at hx, fun v0 a' cap' _ w2 _ => by simp [Builtin.firstCells, run_loadCells_zero]⟩
          | false =>
            rw [hl0, sel_false] at hold
            have hne : len ≠ 0 := fun h0 => by rw [h0] at hl0; cases hl0
            obtain ⟨v1, old', hρ1, hol, hov, hcell⟩ := loadN_sound hr hold
            refine ⟨old', hov, hol, fun v0 hv0 j x hx => by rw [hv0] at hρ1; cases hρ1; exact hcell j x hx, fun v0 a' cap' hh w2 hw2 => ?_⟩
            obtain ⟨h1, h2⟩ := hh hne
            rw [h1] at hρ1; cases hρ1
            subst h2
            have hc2 : ∀ j x, old'[j]? = some x → w2.cell? ⟨v1.blk, v1.base + a.off + j, none⟩ = some x := fun j x hx => by
              have := hcell j x hx
              unfold World.cell? at this ⊢
              rw [hw2]
              exact this
            have hrun := run_loadCells (P := P) hc2
            rw [← hov.length, hol] at hrun
            simpa [Builtin.firstCells] using hrun
        obtain ⟨old', hov, hol, hat, hfc⟩ := olds
        have hneed : cap < len + n := by omega
        cases hop : isOpen a with
        | false =>
          rw [hop, sel_false] at h
          rcases hx.of_slice with ⟨hsp, vw, hρ, hx1⟩ | ⟨es, cap', vw, hsp, hρ, hx1, hc, ha⟩ | ⟨hl0, hc0, a', hx1⟩
          · exact grow s 0 len cap _ old old' v [] hr (.refl _ _ _) hov hol hx1 hneed (hfc _ _ cap fun _ => ⟨hρ, rfl⟩) h
          · rw [isOpen, hsp] at hop; cases hop
          · subst hl0; subst hc0
            exact grow s 0 0 0 _ old old' v [] hr (.refl _ _ _) hov hol hx1 hneed (hfc ⟨0, 0, 0⟩ a' 0 fun h0 => absurd rfl h0) h
        | true =>
          rw [hop, sel_true] at h
          obtain ⟨cs, e', fz, ex, hg, h, v0, c, fz', hρ0, hw, hor⟩ := cells_sound hr h
          rw [chk_eq_some, chk_eq_some, chk_eq_some] at h
          obtain ⟨he, hfz, hes, h⟩ := h
          have he := Nat.eq_of_beq_eq_true he
          subst he
          have hfz := Nat.eq_of_beq_eq_true hfz
          have hes := Nat.eq_of_beq_eq_true hes
          obtain ⟨hd1, hd2⟩ := hr.drop hg
          rcases hx.of_slice with ⟨hsp, vw, hρ, hx1⟩ | ⟨es, cap', vw, hsp, hρ, hx1, hc, ha⟩ | ⟨hl0, hc0, a', hx1⟩
          · rw [isOpen, hsp] at hop; cases hop
          · rw [hρ] at hρ0; cases hρ0
            by_cases hroom2 : len + n ≤ cap'
            · -- in place, under a new name
              have hes : es = ei.size := by rw [hsp] at hes; exact hes
              subst hes
              obtain ⟨hsize, hcl, hcc, hexx, hfr⟩ := hor.cellsAt
              have hl'len : l'.length = n * ei.size := by rw [← hl.length, hlen]
              have hol' : old'.length = len * ei.size := by rw [← hov.length, hol]
              have hmul : len * ei.size + n * ei.size ≤ cap' * ei.size := by rw [← Nat.add_mul]; exact Nat.mul_le_mul_right _ hroom2
              obtain ⟨w', c', g1, g2, g3, g4, g5, g6, g7, g8, g9⟩ := run_storeCells (P := P) v0.blk (v0.base + a.off + len * ei.size) e' fz' l' 0 c w hw (by rw [hl'len]; omega)
                (fun k hk1 hk2 => by
                  rcases hfr with ⟨_, h5⟩ | ⟨_, _, h5⟩ | ⟨h5, _⟩
                  · omega
                  · omega
                  · omega)
                (fun x' hx' => by
                  obtain ⟨i, hi⟩ := List.getElem?_of_mem hx'
                  have hx : i < l.length := by rw [hl.length]; exact (List.getElem?_eq_some_iff.1 hi).1
                  obtain ⟨y, hy, hyr⟩ := hl.get (List.getElem?_eq_getElem hx)
                  rw [hi] at hy; cases hy
                  rw [hyr.oneCell]
                  rw [alln_eq, List.all_eq_true] at hone
                  exact hone _ (List.getElem_mem hx))
              unfold growA at h
              rw [chk_eq_some] at h
              obtain ⟨_, h⟩ := h
              simp only [Option.some.injEq, Prod.mk.injEq] at h
              obtain ⟨rfl, rfl⟩ := h
              have hf := hr.fresh s.next (Nat.le_refl _)
              -- the elder cells, as they lie
              have hcell : ∀ j x, old'[j]? = some x → c[v0.base + a.off + j]? = some x := by
                intro j x hx
                have h1 := hat v0 hρ j x hx
                rw [cell_of hw] at h1
                exact h1
              have hor' : OR (ρ.set s.next ⟨v0.blk, v0.base + a.off, v0.avail - a.off⟩) ⟨v0.blk, v0.base + a.off, v0.avail - a.off⟩ (.cells (appn old l) e' (fz.1, fz.1) false) (.cells c' e' fz') := by
                refine .cells (by show c'.size = v0.base + a.off + (v0.avail - a.off); omega) ?_ ?_ (fun hx => by cases hx) ?_
                · rw [appn_eq, List.length_append, hol, hlen]
                  show _ ≤ v0.avail - a.off
                  omega
                · intro i x hx
                  rw [appn_eq] at hx
                  obtain ⟨x', h1, h2⟩ := (hov.append hl).get hx
                  refine ⟨x', ?_, (h2.mono (Ren.sub_set hf)).cr⟩
                  show c'[v0.base + a.off + i]? = some x'
                  rw [g4]
                  by_cases hi : i < old'.length
                  · rw [List.getElem?_append_left hi] at h1
                    rw [if_neg (by omega)]
                    exact hcell i x' h1
                  · rw [List.getElem?_append_right (by omega)] at h1
                    have hi2 : i - old'.length < l'.length := (List.getElem?_eq_some_iff.1 h1).1
                    rw [if_pos (by omega), show v0.base + a.off + i - (v0.base + a.off + len * ei.size + 0) = i - old'.length by omega]
                    exact h1
                · rcases hfr with ⟨_, h5⟩ | ⟨_, h4, h5⟩ | ⟨h5, _⟩
                  · exact .inl ⟨rfl, h5⟩
                  · refine .inr (.inl ⟨rfl, h4, ?_⟩)
                    show v0.base + a.off + (v0.avail - a.off) ≤ fz'.1
                    omega
                  · omega
              obtain ⟨hr', he'⟩ := hr.take (v' := ⟨v0.blk, v0.base + a.off, v0.avail - a.off⟩) hg hρ rfl g2 hor' g5 g6 g7 g8 g9
              refine ⟨.slice (some ⟨v0.blk, v0.base + a.off, none⟩) (len + n) cap', _, w', _, ?_, ?_, hr', he'⟩
              · subst hx1
                rw [run_append_room (ty := ty) hd hte hnw hroom2 (some _)]
                simp only [Sem.run_bind, add_plain, g1, Result.andThen_ok, Sem.run_pure]
              · have := VR.openS (ρ := ρ.set s.next ⟨v0.blk, v0.base + a.off, v0.avail - a.off⟩) (b := s.next) (off := 0) (es := ei.size) (len := len + n) (cap := len + n) (cap' := cap') (Ren.set_same _ _ _) hroom2
                  (by show 0 + cap' * ei.size ≤ v0.avail - a.off; omega)
                exact this
            · exact grow _ fz.1 len cap' _ old old' v _ hd1 hd2 hov hol hx1 (by omega) (hfc _ _ cap' fun _ => ⟨hρ, rfl⟩) h
          · subst hl0; subst hc0
            exact grow _ fz.1 0 0 _ old old' v _ hd1 hd2 hov hol hx1 hneed (hfc ⟨0, 0, 0⟩ a' 0 fun h0 => absurd rfl h0) h
    · cases h
  · cases h

theorem copyA_sound (hE : E.Ok P) (hr : Rep G ρ s w) {t u ty : TypeId} {x x' y y' v : Value} (h : copyA E s t x y = some (v, s')) (hx : VR ρ x x') (hy : VR ρ y y') :
    Gives P G ρ s w (Builtin.copy_ #[t, u] ty #[x', y']) v s' := by
  unfold copyA at h
  rw [ob_eq_some] at h
  obtain ⟨ti, hti, h⟩ := h
  have htt := hE.ty t ti hti
  obtain ⟨d, hd, hu⟩ := htt.run_under (w := w)
  split at h
  · rename_i e base dLen dCap hdesc
    rw [hdesc] at hd
    have := TD.of_slice hd; subst this
    rw [ob_eq_some] at h
    obtain ⟨ei, hei, h⟩ := h
    have hte := hE.ty e ei hei
    rw [ob_eq_some] at h
    obtain ⟨m, hm, h⟩ := h
    rw [ob_eq_some] at h
    obtain ⟨new, hnew, h⟩ := h
    obtain ⟨l', hl, hfc⟩ := run_firstCells (P := P) hnew hr hy
    have hfc := hfc w rfl
    have hlo := lenOf_sound (P := P) hm hy w
    have hrun : ∀ (base : Option Addr) (dCap : Nat), (Builtin.copy_ #[t, u] ty #[.slice base dLen dCap, y']).run P w =
        (match base with
          | some a => do storeCells a l'; pure (.int .i64 (.ofNat (Nat.min m dLen)))
          | none => pure (.int .i64 (.ofNat (Nat.min m dLen))) : Sem Value).run P w := by
      intro base dCap
      simp only [Builtin.copy_, List.getElem?_toArray, List.getElem?_cons_zero, List.getElem?_cons_succ, hu, hlo, hte.run_size, Sem.run_bind, Result.andThen_ok, hfc]
      cases base <;> rfl
    split at h
    · cases h
      cases hx
      exact ⟨_, ρ, w, [], by rw [hrun]; rfl, .int _ _, hr, .refl _ _ _⟩
    · rename_i a
      cases hn : Nat.beq (Nat.min m dLen) 0 with
      | true =>
        rw [hn, sel_true] at h
        cases h
        have hn0 : Nat.min m dLen = 0 := Nat.eq_of_beq_eq_true hn
        have hl0 : l' = [] := by
          rw [← List.length_eq_zero_iff, ← hl.length]
          rw [hn0] at hnew
          unfold firstCellsA at hnew
          split at hnew
          · cases hnew; rfl
          · cases hnew; rfl
          · rename_i b
            cases hnew
            rw [byteVals_eq, List.length_map, Array.length_toList]
            show (b.extract 0 0).size = _
            simp [ByteArray.size_extract]
          · cases hnew
        subst hl0
        refine ⟨.int .i64 0, ρ, w, [], ?_, .int _ _, hr, .refl _ _ _⟩
        rw [hn0] at hrun
        rcases hx.of_slice with ⟨_, vw, hρ, hx1⟩ | ⟨es, cap', vw, _, hρ, hx1, _, _⟩ | ⟨hl0, _, a', hx1⟩
        · subst hx1; rw [hrun]; rfl
        · subst hx1; rw [hrun]; rfl
        · subst hx1; subst hl0; rw [hrun]; rfl
      | false =>
        rw [hn, sel_false, ob_eq_some] at h
        obtain ⟨s1, hs1, h⟩ := h
        cases h
        have hn0 : Nat.min m dLen ≠ 0 := fun h0 => by
          rw [h0] at hn; cases hn
        obtain ⟨v0, w', hρ0, hst, hr', he'⟩ := storeN_sound (P := P) hr hs1 hl
        refine ⟨.int .i64 (.ofNat (Nat.min m dLen)), ρ, w', _, ?_, .int _ _, hr', he'⟩
        rcases hx.of_slice with ⟨_, vw, hρ, hx1⟩ | ⟨es, cap', vw, _, hρ, hx1, _, _⟩ | ⟨hl0, _, a', hx1⟩
        · subst hx1
          rw [hρ] at hρ0; cases hρ0
          rw [hrun, Sem.run_bind, hst]; rfl
        · subst hx1
          rw [hρ] at hρ0; cases hρ0
          rw [hrun, Sem.run_bind, hst]; rfl
        · subst hl0
          exact absurd (Nat.min_zero m) hn0
  · cases h
end
end Go.Rx
