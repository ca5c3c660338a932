/- The seat's environment: what is known of the program. -/
import Derived.Test.YtomjllcnpddiaaaGreatDoorRxEnvS
set_option linter.unusedSimpArgs false
set_option linter.unusedVariables false
set_option linter.unusedSectionVars false
namespace Go.Proofs
open Go Go.Rx
set_option maxRecDepth 100000

noncomputable def Tryz.rxExt (f : Nat) (args : List Value) : Option Value :=
  sel (Nat.beq f 181) (match args with
    | [.string b, .int .u8 c] => some (.int .i64 (findByte (c.toNat % 256) b.data.toList 0))
    | _ => none)
  (sel (Nat.beq f 263) (match args with
    | [.string b, .int .u8 c] => some (.int .i64 (.ofNat (countByte (c.toNat % 256) b.data.toList 0)))
    | _ => none)
  (sel (Nat.beq f 247) (match args with
    | [x] => some x
    | _ => none) none))

noncomputable def Tryz.rx : Env where
  ng := 14
  fn := Tryz.fnTrie.get
  ty := Tryz.tyTrie.get
  ext := Tryz.rxExt
  noZero := fun f => sel (Nat.beq f 351) (some 5) none
  byteRow := fun t => Nat.beq t 5

theorem Tryz.rx_ok : Env.Ok Tryz.prog Tryz.rx where
  ng := by
    have : Nat.ble 14 Tryz.prog.globals.size = true := by kernel_rfl
    exact Nat.le_of_ble_eq_true this
  mixed := by kernel_rfl
  fn f fn h := PT.all_get Tryz.rxFn h
  ty t i h := PT.all_get Tryz.rxTy h
  ext g args v _ _ h ρ args' ha w := by
    have h' : Tryz.rxExt g args = some v := h
    unfold Tryz.rxExt at h'
    cases h1 : Nat.beq g 181 with
    | true =>
      have := Nat.eq_of_beq_eq_true h1; subst this
      rw [h1, sel_true] at h'
      split at h'
      · cases h'
        cases ha with | cons hx ha => cases ha with | cons hy ha => cases ha; cases hx; cases hy; exact ⟨_, ext_indexByte Tryz.func181 (by kernel_rfl) (by kernel_rfl) (by kernel_rfl) (e := Extern.BytealgIndexByte.indexByte) (by kernel_rfl) rfl _ _ w, .int _ _⟩
      · cases h'
    | false =>
      rw [h1, sel_false] at h'
      cases h2 : Nat.beq g 263 with
      | true =>
        have := Nat.eq_of_beq_eq_true h2; subst this
        rw [h2, sel_true] at h'
        split at h'
        · cases h'
          cases ha with | cons hx ha => cases ha with | cons hy ha => cases ha; cases hx; cases hy; exact ⟨_, ext_count Tryz.func263 (by kernel_rfl) (by kernel_rfl) (by kernel_rfl) (e := Extern.BytealgCount.count) (by kernel_rfl) rfl _ _ w, .int _ _⟩
        · cases h'
      | false =>
        rw [h2, sel_false] at h'
        cases h3 : Nat.beq g 247 with
        | true =>
          have := Nat.eq_of_beq_eq_true h3; subst this
          rw [h3, sel_true] at h'
          split at h'
          · cases h'
            cases ha with | cons hx ha => cases ha; exact ⟨_, ext_same Tryz.func247 (by kernel_rfl) (by kernel_rfl) (by kernel_rfl) (e := Extern.AbiNoEscape.same) (by kernel_rfl) rfl _ w, hx⟩
          · cases h'
        | false =>
          rw [h3, sel_false] at h'
          cases h'
  noZero g e h := by
    have h' : sel (Nat.beq g 351) (some 5) none = some e := h
    cases h1 : Nat.beq g 351 with
    | false => rw [h1] at h'; cases h'
    | true =>
      have := Nat.eq_of_beq_eq_true h1; subst this
      rw [h1, sel_true] at h'
      cases h'
      refine ⟨by kernel_rfl, fun n w hle => ?_⟩
      exact ext_noZero (t := 99) (ps := Tryz.f351.params) Tryz.func351 (by kernel_rfl) (by kernel_rfl) (by kernel_rfl) (en := Extern.BytealgMakeNoZero.makeNoZero Tryz.f351.params #[99]) (by kernel_rfl) rfl Tryz.underlying99 n w hle
  byteRow e h := by
    have := Nat.eq_of_beq_eq_true h; subst this
    have hc : Tryz.prog.cellsOf 5 = 1 := by kernel_rfl
    have hd : Nat.ble 1 Tryz.prog.depth = true := by kernel_rfl
    exact ⟨hc, fun count off n hle => byteRow_ok hc (Nat.le_of_ble_eq_true hd) count off n hle⟩
end Go.Proofs
