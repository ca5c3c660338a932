/- Operations of the model: builtins. -/
import Derived.Test.YtomjllcnpddiaaaGreatDoorRxOps6
set_option linter.unusedSimpArgs false
set_option linter.unusedVariables false
set_option linter.unusedSectionVars false
namespace Go.Rx
open Go

/-- The same, for what the machine asks of an operation. -/
def GivesN (P : Program) (G : Nat) (ρ : Ren) (s : St) (w : World) (m : Sem Next) (v : Value) (s' : St) : Prop :=
  ∃ n v' ρ' w' l, m.run P w = .ok n w' ∧ nextVal n = some v' ∧ VR ρ' v v' ∧ Rep G ρ' s' w' ∧ Ext ρ s w ρ' s' w' l

section
variable {P : Program} {E : Env} {G : Nat} {ρ : Ren} {s s' : St} {w : World}

theorem Gives.next {m : Sem Value} {v : Value} (h : Gives P G ρ s w m v s') : GivesN P G ρ s w (do pure (.value (← m))) v s' := by
  obtain ⟨v', ρ', w', l, h1, h2⟩ := h
  exact ⟨.value v', v', ρ', w', l, by simp [h1], rfl, h2⟩
/-- Nothing but a value. -/
theorem Gives.pure' {m : Sem Value} {v v' : Value} (hr : Rep G ρ s w) (hv : VR ρ v v') (h : m.run P w = .ok v' w) : Gives P G ρ s w m v s :=
  ⟨v', ρ, w, [], h, hv, hr, .refl _ _ _⟩

theorem run_loadBytes {b off : Nat} : ∀ (ns : List Int) (i : Nat) (acc : ByteArray), (∀ j x, (ns.map (Value.int .u8))[j]? = some x → w.cell? ⟨b, off + (i + j), none⟩ = some x) →
    (loadBytes ⟨b, off + i, none⟩ acc ns.length).run P w = .ok (ns.foldl (fun r n => r.push (UInt8.ofNat n.toNat)) acc) w
  | [], i, acc, _ => by simp [loadBytes]
  | n :: ns, i, acc, h => by
    have h0 := h 0 (.int .u8 n) rfl
    simp only [Nat.add_zero] at h0
    simp only [List.length_cons, loadBytes, Sem.run_bind, add_plain, run_load_cell _ h0, Result.andThen_ok, List.foldl_cons]
    rw [Nat.add_assoc]
    exact run_loadBytes ns (i + 1) _ fun j x hx => by have := h (j + 1) x (by simpa using hx); rwa [show i + 1 + j = i + (j + 1) by omega]

/-- Maps' lengths. -/
theorem OR.mapAt {v : View} {es : List MapEntry} {cl : Nat} {o : Obj} (h : OR ρ v (.map es cl) o) : ∃ es', o = .map ⟨es'⟩ cl ∧ EL ρ es es' := by
  cases h with
  | map h => exact ⟨_, rfl, h⟩

theorem foldlM_min (rest : List Value) : ∀ x u : Value, pureRun P (rest.foldlM Builtin.min2 x) = some u → (rest.foldlM Builtin.min2 x).run P w = .ok u w := fun _ _ h => pureRun_run _ _ h

theorem VL.scalars {l l' : List Value} (h : VL ρ l l') (hs : l.all scalar = true) : l' = l := by
  induction l generalizing l' with
  | nil => cases h; rfl
  | cons v l ih =>
    simp only [List.all_cons, Bool.and_eq_true] at hs
    cases h with | cons h t => rw [h.scalar_eq hs.1, ih t hs.2]
theorem isInt_scalar {l : List Value} (h : l.all isInt = true) : l.all scalar = true := by
  rw [List.all_eq_true] at h ⊢
  intro v hv
  have := h v hv
  unfold isInt at this
  split at this
  · rfl
  · cases this

theorem deleteA_sound (hE : E.Ok P) (hr : Rep G ρ s w) {t kt et : TypeId} {ki : TI} {r : Nat} {k k' m' : Value} {es : List MapEntry} {clock : Nat} {ts : List TypeId} {ty : TypeId}
    (ht : P.underlying t = some (.map kt et)) (hki : E.ty kt = some ki) (hk : keyFits ki.desc k = true) (hg : s.h.get r = some (.map es clock))
    (hf : alln (fun e => keyFits ki.desc e.key) es = true) (hm : VR ρ (.map (some r)) m') (hkk : VR ρ k k') :
    Gives P G ρ s w (Builtin.delete_ ⟨t :: ts⟩ ty #[m', k']) (.tuple #[]) (s.put r (some (.map (dropA k es) clock))) := by
  have hkt := hE.ty kt ki hki
  rw [alln_eq] at hf
  cases hm with
  | map hρ =>
    rename_i vw
    obtain ⟨v0, o, h1, h2, h3⟩ := hr.live r _ hg
    rw [hρ] at h1; cases h1
    obtain ⟨es', rfl, hel⟩ := h3.mapAt
    have hk' := hkk.scalar_eq (keyFits_scalar hk)
    subst hk'
    obtain ⟨hkeys, _⟩ := hel.keys hf
    have hget := run_getObj (P := P) h2 (by simp)
    have hfind := findKey_ok (w := w) hkt hk hkeys
    have hds := drop_sound hel hf (k := k') 0
    have hck : ∀ b, (Instr.checkKey b 10000 kt k').run P w = .ok () w := fun b => checkKey_ok hkt hk b 9999
    cases hi : idx k' es' 0 with
    | none =>
      rw [hi] at hds
      obtain ⟨g1, g2⟩ := heap_setObj (o' := .map ⟨es'⟩ clock) h2
      have hset := run_setObj (P := P) (o' := .map ⟨es'⟩ clock) h2 (by simp)
      obtain ⟨hr', he'⟩ := hr.put hg hρ g1 (.map hds) (by simp) g2 rfl rfl rfl
      refine ⟨.tuple #[], ρ, _, _, ?_, .tuple .nil, hr', he'⟩
      simp [Builtin.delete_, run_under_of ht, hget, hck, hfind, hi, hset]
    | some q =>
      obtain ⟨j, v⟩ := q
      rw [hi] at hds
      obtain ⟨_, hj, hel'⟩ := hds
      simp only [Nat.sub_zero] at hj hel'
      have herase : (⟨es'⟩ : Array MapEntry).eraseIdxIfInBounds j = ⟨es'.eraseIdx j⟩ := by
        simp [Array.eraseIdxIfInBounds, hj]
      obtain ⟨g1, g2⟩ := heap_setObj (o' := .map ⟨es'.eraseIdx j⟩ clock) h2
      have hset := run_setObj (P := P) (o' := .map ⟨es'.eraseIdx j⟩ clock) h2 (by simp)
      obtain ⟨hr', he'⟩ := hr.put hg hρ g1 (.map hel') (by simp) g2 rfl rfl rfl
      refine ⟨.tuple #[], ρ, _, _, ?_, .tuple .nil, hr', he'⟩
      simp [Builtin.delete_, run_under_of ht, hget, hck, hfind, hi, herase, hset]

theorem World.freeze_get {a : Addr} {n : Nat} {c : Array Value} {e : TypeId} {fz : Nat × Nat} (h : w.heap[a.block]? = some (.cells c e fz)) (hn : n ≠ 0) :
    (w.freeze a n).heap[a.block]? = some (.cells c e (if fz.1 == fz.2 then (a.off, a.off + n) else (min fz.1 a.off, max fz.2 (a.off + n)))) ∧
    (w.freeze a n).heap.size = w.heap.size ∧ (∀ k, k ≠ a.block → (w.freeze a n).heap[k]? = w.heap[k]?) ∧ (w.freeze a n).os = w.os ∧ (w.freeze a n).tape = w.tape ∧ (w.freeze a n).output = w.output := by
  unfold World.freeze
  rw [if_neg hn]
  obtain ⟨lo, hi⟩ := fz
  refine ⟨by simp [Array.getElem?_modify, h], by simp, fun k hk => by simp [Array.getElem?_modify, Ne.symm hk], rfl, rfl, rfl⟩

theorem sliceData_nil (ts : Array TypeId) (ty : TypeId) (l c : Nat) : Builtin.unsafeSliceData_ ts ty #[.slice none l c] = pure (.pointer none) := rfl
theorem sliceData_some (ts : Array TypeId) (ty : TypeId) (a : Addr) (l : Nat) {c : Nat} (hc : c ≠ 0) : (Builtin.unsafeSliceData_ ts ty #[.slice (some a) l c]).run P w = .ok (.pointer (some a)) w := by
  have : Builtin.unsafeSliceData_ ts ty #[.slice (some a) l c] =
    (if c ≠ 0 then pure (.pointer (some a)) else do
      if (← viewAt a.block).isSome then pure (.pointer (some a))
      else pure (.pointer (some ⟨← newObj (.view a (← elemOf ty)), 0, none⟩))) := rfl
  rw [this, if_pos hc]
  rfl

theorem unsafeString_eq (t : TypeId) (ts : List TypeId) (ty : TypeId) (p : Option Addr) (k : IntKind) (n : Nat) (hn : (n : Int) ≤ 9223372036854775807) : (Builtin.unsafeString_ ⟨t :: ts⟩ ty #[.pointer p, .int k (n : Int)]).run P w =
    (match p with
      | none => do
        if (n : Int) = 0 then pure (.string .empty)
        else runtimePanic (.error "unsafe.String: ptr is nil and len is not zero")
      | some a => do
        if (n : Int) = 0 then pure (.string .empty)
        else if ← variablesAt a (← elemOf t) n then do
          let s ← loadBytes a .empty n
          freeze a n
          pure (.string s)
        else unsupported (.unsafePointer "String: not so many bytes at ptr") : Sem Value).run P w := by
  have h1 : ¬ ((n : Int) < 0) := by omega
  have h2 : ¬ ((n : Int) > 9223372036854775807) := by omega
  have h3 : IntKind.i64.max = 9223372036854775807 := rfl
  unfold Builtin.unsafeString_
  show (do
    let m ← asInt (.int k (n : Int))
    if m < 0 then runtimePanic (.error "unsafe.String: len out of range")
    if m > IntKind.i64.max then unsupported (.unsafePointer "String: a length above the largest int")
    match p with
    | none => if m = 0 then pure (.string .empty) else runtimePanic (.error "unsafe.String: ptr is nil and len is not zero")
    | some a =>
      if m = 0 then pure (.string .empty)
      else if ← variablesAt a (← elemOf t) m.toNat then do
        let s ← loadBytes a .empty m.toNat
        freeze a m.toNat
        pure (.string s)
      else unsupported (.unsafePointer "String: not so many bytes at ptr") : Sem Value).run P w = _
  simp only [asInt, asIntOf, Sem.run_bind, Sem.run_pure, Result.andThen_ok, Sem.run_ite, if_neg h1, h3, if_neg h2, Int.toNat_natCast]

set_option maxHeartbeats 1000000 in
theorem builtinA_sound (hE : E.Ok P) (hr : Rep G ρ s w) {b : Builtin} {ts : List TypeId} {ty : TypeId} {cs : Array Bool} {args args' : List Value} {v : Value} (h : builtinA P E s b ts args = some (v, s')) (ha : VL ρ args args') :
    GivesN P G ρ s w (builtin b ⟨ts⟩ ty cs ⟨args'⟩) v s' := by
  unfold builtinA at h
  split at h
  · -- len
    rename_i t ts x rest
    rw [ob_eq_some] at h
    obtain ⟨ti, hti, h⟩ := h
    obtain ⟨d, hd1, hd2⟩ := (hE.ty t ti hti).under
    cases ha with
    | cons hx _ =>
      rename_i x' rest' _
      refine Gives.next ?_
      split at h
      · rename_i hdesc
        rw [hdesc] at hd2; have := TD.of_string hd2; subst this
        cases h; cases hx
        refine .pure' hr (.int _ _) ?_
        simp [Builtin.len_, run_under_of hd1]; rfl
      · rename_i n _ hdesc
        rw [hdesc] at hd2; have := TD.of_array hd2; subst this
        cases h
        refine .pure' hr (.int _ _) ?_
        simp [Builtin.len_, run_under_of hd1]; rfl
      · rename_i hdesc
        rw [hdesc] at hd2; have := TD.of_slice hd2; subst this
        cases h
        refine .pure' hr (.int _ _) ?_
        cases hx <;> simp [Builtin.len_, run_under_of hd1] <;> rfl
      · rename_i hdesc
        rw [hdesc] at hd2; have := TD.of_map hd2; subst this
        cases h; cases hx
        refine .pure' hr (.int _ _) ?_
        simp [Builtin.len_, run_under_of hd1]; rfl
      · rename_i r hdesc
        rw [hdesc] at hd2; have := TD.of_map hd2; subst this
        split at h
        · rename_i es cl hg
          cases h
          cases hx with
          | map hρ =>
            obtain ⟨v0, o, h1, h2, h3⟩ := hr.live r _ hg
            rw [hρ] at h1; cases h1
            obtain ⟨es', rfl, hel⟩ := h3.mapAt
            have hget := run_getObj (P := P) h2 (by simp)
            refine .pure' hr (.int _ _) ?_
            rw [lengthn_eq, hel.length]
            simp [Builtin.len_, run_under_of hd1, hget]; rfl
        · cases h
      · cases h
  · -- cap
    rename_i t ts x rest
    rw [ob_eq_some] at h
    obtain ⟨ti, hti, h⟩ := h
    obtain ⟨d, hd1, hd2⟩ := (hE.ty t ti hti).under
    cases ha with
    | cons hx _ =>
      refine Gives.next ?_
      split at h
      · rename_i hdesc
        rw [hdesc] at hd2; have := TD.of_slice hd2; subst this
        cases h; cases hx
        refine .pure' hr (.int _ _) ?_
        simp [Builtin.cap_, run_under_of hd1]; rfl
      · rename_i a _ n hdesc
        rw [hdesc] at hd2; have := TD.of_slice hd2; subst this
        rw [chk_eq_some] at h
        obtain ⟨hpl, h⟩ := h
        cases h
        refine .pure' hr (.int _ _) ?_
        rcases hx.of_slice with ⟨_, vw, hρ, hx1⟩ | ⟨es, cap', vw, hsp, hρ, hx1, _, _⟩ | ⟨_, hc0, a', hx1⟩
        · subst hx1; simp [Builtin.cap_, run_under_of hd1]; rfl
        · rw [plainA, hsp] at hpl; cases hpl
        · subst hx1; subst hc0; simp [Builtin.cap_, run_under_of hd1]; rfl
      · cases h
  · -- append
    cases ha with
    | cons hx ha =>
      cases ha with
      | cons hy ha =>
        cases ha
        exact (appendA_sound hE hr h hx hy).next
  · -- copy
    cases ha with
    | cons hx ha =>
      cases ha with
      | cons hy ha =>
        cases ha
        exact (copyA_sound hE hr h hx hy).next
  · -- min
    rename_i x rest
    rw [chk_eq_some, alln_eq] at h
    obtain ⟨h1, h⟩ := h
    rw [ob_eq_some] at h
    obtain ⟨u, hu, h⟩ := h
    rw [chk_eq_some] at h
    obtain ⟨h2, h⟩ := h
    cases h
    have := ha.scalars (isInt_scalar h1)
    subst this
    refine Gives.next (.pure' hr (.of_scalar h2) ?_)
    exact pureRun_run _ _ hu
  · -- max
    rename_i x rest
    rw [chk_eq_some, alln_eq] at h
    obtain ⟨h1, h⟩ := h
    rw [ob_eq_some] at h
    obtain ⟨u, hu, h⟩ := h
    rw [chk_eq_some] at h
    obtain ⟨h2, h⟩ := h
    cases h
    have := ha.scalars (isInt_scalar h1)
    subst this
    refine Gives.next (.pure' hr (.of_scalar h2) ?_)
    exact pureRun_run _ _ hu
  · -- unsafe.SliceData
    rename_i x
    cases ha with
    | cons hx ha =>
      cases ha
      refine Gives.next ?_
      split at h
      · cases h
        cases hx
        exact .pure' hr .nilPtr rfl
      · rename_i a _ c
        cases hc : Nat.beq c 0 with
        | true => rw [hc] at h; cases h
        | false =>
          rw [hc, sel_false] at h
          cases h
          have hc0 : c ≠ 0 := fun h0 => by rw [h0] at hc; cases hc
          rcases hx.of_slice with ⟨_, vw, hρ, hx1⟩ | ⟨es, cap', vw, hsp, hρ, hx1, hcc, _⟩ | ⟨_, hc1, a', hx1⟩
          · subst hx1; exact .pure' hr (.ptr hρ) (sliceData_some _ _ _ _ hc0)
          · subst hx1; exact .pure' hr (.ptr hρ) (sliceData_some _ _ _ _ (by omega))
          · exact absurd hc1 hc0
      · cases h
  · -- unsafe.String
    rename_i t ts p n
    cases ha with
    | cons hx ha =>
      cases ha with
      | cons hy ha =>
        cases ha
        refine Gives.next ?_
        split at h
        · cases h
          cases hx; cases hy
          refine .pure' hr (.string _) ?_
          have := unsafeString_eq (P := P) (w := w) t ts ty none ‹_› 0 (by omega)
          exact this
        · rename_i a k n
          cases hn : Nat.beq n 0 with
          | true =>
            have hn0 := Nat.eq_of_beq_eq_true hn
            subst hn0
            rw [hn, sel_true] at h
            cases h
            cases hx; cases hy
            refine .pure' hr (.string _) ?_
            exact unsafeString_eq (P := P) (w := w) t ts ty (some _) k 0 (by omega)
          | false =>
            have hn0 : n ≠ 0 := fun h0 => by rw [h0] at hn; cases hn
            rw [hn, sel_false, ob_eq_some] at h
            obtain ⟨ti, hti, h⟩ := h
            obtain ⟨d, hd1, hd2⟩ := (hE.ty t ti hti).under
            split at h
            · rename_i u hdesc
              rw [hdesc] at hd2; have := TD.of_pointer hd2; subst this
              obtain ⟨cs, e, fz, ex, hg, h, v0, c, fz', hρ0, hw, hor⟩ := cells_sound hr h
              rw [chk_eq_some, chk_eq_some, chk_eq_some, chk_eq_some, chk_eq_some, chk_eq_some] at h
              obtain ⟨hbr, hu, hfz0, hpl, hoff, hbig, h⟩ := h
              have hu := Nat.eq_of_beq_eq_true hu
              subst hu
              have hfz0 := Nat.eq_of_beq_eq_true hfz0
              have hoff := Nat.eq_of_beq_eq_true hoff
              have hbig : n ≤ 1099511627776 := Nat.le_of_ble_eq_true hbig
              rw [ob_eq_some] at h
              obtain ⟨l, hl, h⟩ := h
              rw [ob_eq_some] at h
              obtain ⟨bs, hbs, h⟩ := h
              cases h
              obtain ⟨ns, hns1, hns2⟩ := bytesOf_sound hbs
              obtain ⟨v1, l', hρ1, hlen, hvl, hc⟩ := loadN_sound hr hl
              rw [hρ0] at hρ1; cases hρ1
              obtain ⟨hsize, hcl, hcc, hexx, hfr⟩ := hor.cellsAt
              subst hns1
              have := hvl.ints
              subst this
              simp only [List.length_map] at hlen
              obtain ⟨blk, off, sp⟩ := a
              simp only at hoff
              subst hoff
              cases hx with
              | ptr hρ =>
                rw [hρ0] at hρ; cases hρ
                cases hy
                have hcs : n ≤ cs.length := by
                  have h2 := hl
                  unfold St.loadN St.cells at h2
                  simp only [hg] at h2
                  rw [takeOk_eq, dropn_eq] at h2
                  split at h2
                  · rename_i h3; simpa using h3.1
                  · cases h2
                obtain ⟨hb1, hb2⟩ := hE.byteRow u hbr
                have hlies := hb2 c.size (v0.base + 0) n (by omega)
                have hload := run_loadBytes (P := P) (w := w) (b := v0.blk) (off := v0.base + 0) ns 0 .empty (fun j x hx => by simpa using hc j x hx)
                rw [hlen] at hload
                have hsh := shape_of hw
                have hvar : (variablesAt ⟨v0.blk, v0.base + 0, none⟩ u n).run P w = .ok true w := by
                  simp [variablesAt, hsh, hb1]
                  simpa using hlies
                have hel : (elemOf t).run P w = .ok u w := by simp [elemOf, run_under_of hd1]
                obtain ⟨f1, f2, f3, f4, f5, f6⟩ := World.freeze_get (w := w) (a := ⟨v0.blk, v0.base + 0, none⟩) hw hn0
                have hor' : OR ρ v0 (.cells cs u (0, Nat.max fz.2 n) ex) (.cells c u (if fz'.1 == fz'.2 then (v0.base + 0, v0.base + 0 + n) else (min fz'.1 (v0.base + 0), max fz'.2 (v0.base + 0 + n)))) := by
                  refine .cells hsize hcl hcc hexx ?_
                  have hmax : Nat.max fz.2 n = max fz.2 n := rfl
                  rcases hfr with ⟨h4, h5⟩ | ⟨h4, h5, _⟩ | ⟨h4, h5⟩
                  · rw [if_pos (by simp [h5])]
                    refine .inr (.inr ⟨by simp only [hmax]; omega, ?_⟩)
                    simp only [hmax]
                    congr 1
                    omega
                  · omega
                  · rw [if_neg (by rw [h5]; simp; omega)]
                    refine .inr (.inr ⟨by simp only [hmax]; omega, ?_⟩)
                    rw [h5]
                    simp only [hmax]
                    congr 1 <;> omega
                obtain ⟨hr', he'⟩ := hr.put hg hρ0 f1 hor' f2 f3 f4 f5 f6
                refine ⟨_, ρ, _, _, ?_, .string _, hr', he'⟩
                have hmain := unsafeString_eq (P := P) (w := w) t ts ty (some ⟨v0.blk, v0.base + 0, none⟩) k n (by omega)
                have hne : ¬ ((n : Int) = 0) := by omega
                refine hmain.trans ?_
                simp only [Sem.run_bind, Sem.run_ite, if_neg hne, hel, Result.andThen_ok, hvar, if_true]
                have hload' : (loadBytes ⟨v0.blk, v0.base + 0, none⟩ ByteArray.empty n).run P w = .ok ⟨⟨bs⟩⟩ w := by
                  rw [hns2]
                  refine hload.trans ?_
                  rw [foldl_push_ints]
                  rfl
                simp only [hload', Result.andThen_ok, run_freeze, Sem.run_pure]
            · cases h
        · cases h
  · -- delete
    rename_i t ts m k
    rw [ob_eq_some] at h
    obtain ⟨ti, hti, h⟩ := h
    obtain ⟨d, hd1, hd2⟩ := (hE.ty t ti hti).under
    cases ha with
    | cons hx ha =>
      cases ha with
      | cons hy ha =>
        cases ha
        refine Gives.next ?_
        split at h
        · rename_i kt et r hdesc
          rw [hdesc] at hd2; have := TD.of_map hd2; subst this
          rw [ob_eq_some] at h
          obtain ⟨ki, hki, h⟩ := h
          rw [chk_eq_some] at h
          obtain ⟨hk, h⟩ := h
          split at h
          · rename_i es clock hg
            rw [chk_eq_some] at h
            obtain ⟨hf, h⟩ := h
            cases h
            exact deleteA_sound hE hr hd1 hki hk hg hf hx hy
          · cases h
        · cases h
  · cases h
end
end Go.Rx
