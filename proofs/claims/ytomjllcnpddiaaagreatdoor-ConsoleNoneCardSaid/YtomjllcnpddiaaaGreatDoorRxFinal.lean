/- The law, proved: the console's answers. -/
import Derived.Test.YtomjllcnpddiaaaGreatDoorRxLawA
import Derived.Test.YtomjllcnpddiaaaGreatDoorRxLawB
import Derived.ProofKit
import Derived.Lay
import Derived.Deep.DeepHandedRow
import Derived.Deep.DeepWitnessRowRef
import Derived.SizedLaws
import Derived.Lib.LaidTab
import Derived.Test.YtomjllcnpddiaaaGreatDoorRxJf0
import Derived.Test.YtomjllcnpddiaaaGreatDoorRxJf1
import Derived.Test.YtomjllcnpddiaaaGreatDoorRxJf2
import Derived.Test.YtomjllcnpddiaaaGreatDoorRxJf3
import Derived.Test.YtomjllcnpddiaaaGreatDoorRxJf4
import Derived.Test.YtomjllcnpddiaaaGreatDoorRxJf5
set_option linter.unusedSimpArgs false
set_option linter.unusedVariables false
set_option linter.unusedSectionVars false
namespace Go.Proofs.YtomjllcnpddiaaaGreatDoor
open Go Go.Rx Go.ChangeShapes Go.WideShapes Go.ChangeAt Go.RowKit Go.Lib
open Go.ChangeMaps (open_string shut_string)

/-- What the evaluator says of the law, whatever the line. -/
theorem law_run (e : TypeId) (b : ByteArray) : ∃ tm s, run Tryz.prog Tryz.rx 19999 (.code Tryz.body3 ⟨3, .string b :: List.replicate 27 undef, [], none⟩) (Tryz.st0 e) = some ⟨.ret, tm, [], s⟩ ∧
    nthD undef tm 2 = .bool true ∧ ∀ n ∈ s.log, 14 ≤ n := by
  have h : okG (Tryz.G e (decide ((Int.ofNat b.size) > 320)) b) = true := by
    cases decide ((Int.ofNat b.size) > 320) with
    | true => exact Tryz.runA e b
    | false => exact Tryz.runB e b
  rw [Tryz.law_eq]
  generalize Tryz.G e (decide ((Int.ofNat b.size) > 320)) b = r at h
  unfold okG at h
  split at h
  · rename_i tm s
    rw [Bool.and_eq_true] at h
    refine ⟨tm, s, rfl, ?_, ?_⟩
    · have h1 := h.1
      split at h1
      · assumption
      · cases h1
    · rw [alln_eq, List.all_eq_true] at h
      exact fun n hn => Nat.le_of_ble_eq_true (h.2 n hn)
  · cases h

theorem law_call (e : TypeId) (b : ByteArray) : ∃ s, run Tryz.prog Tryz.rx 20000 (.call 3 [.string b]) (Tryz.st0 e) = some ⟨.val (.bool true), [], [], s⟩ ∧ ∀ n ∈ s.log, 14 ≤ n := by
  obtain ⟨tm, s, h1, h2, h3⟩ := law_run e b
  refine ⟨s, ?_, h3⟩
  have hf : run Tryz.prog Tryz.rx 20000 (.call 3 [.string b]) (Tryz.st0 e) =
      (ob (run Tryz.prog Tryz.rx 19999 (.code Tryz.body3 ⟨3, .string b :: List.replicate 27 undef, [], none⟩) (Tryz.st0 e)) fun r =>
        match r.out with
        | .normal | .ret => ob (takeAll r.df r.s) fun s => ob (resultsA Tryz.rx s r.tm [.tmp 2]) fun l => some (⟨.val (resultA l), [], [], s⟩ : R)
        | _ => none) := rfl
  rw [hf, h1]
  simp only [ob_some, takeAll, resultsA, h2]
  rfl

/-- The names of the package's variables, as they lie. -/
noncomputable def names (W : World) : Ren := fun b => if b < 14 then some ⟨b, 0, match W.heap[b]? with | some (.cells c _ _) => c.size | _ => 0⟩ else none

theorem law (s : ByteArray) (W : World) (e : TypeId) (h6 : W.heap[6]? = some (.cells ((List.range 20).map fun i => Value.int .u64 (10 ^ i)).toArray e (0, 0))) :
    Calls Tryz.prog 3 #[.string s] W fun e w' => e = .returned (.bool true) ∧ Below W.heap.size W w' := by
  obtain ⟨s', hrun, hlog⟩ := law_call e s
  have hget : ∀ b, (Tryz.st0 e).h.get b = if b = 6 then some (.cells ((List.range 20).map fun i => .int .u64 (10 ^ i)) e (0, 0) true) else none := fun b => by
    show (PT.set .leaf 6 _).get b = _
    rw [PT.get_set, PT.get_leaf]
  have hn6 : names W 6 = some ⟨6, 0, 20⟩ := by simp [names, h6]
  have hrep : Rep 14 (names W) (Tryz.st0 e) W := by
    refine ⟨?_, ?_, ?_, ?_, Nat.le_refl _⟩
    · intro b en hb
      rw [hget] at hb
      split at hb
      · rename_i hb6
        subst hb6
        cases hb
        refine ⟨⟨6, 0, 20⟩, _, hn6, h6, .cells (by simp) (by simp) ?_ (fun _ => ⟨rfl, by simp⟩) (.inl ⟨rfl, rfl⟩)⟩
        intro i x hx
        refine ⟨x, by simpa using hx, VR.cr (.of_scalar ?_)⟩
        simp at hx
        obtain ⟨_, _, rfl⟩ := hx
        rfl
      · cases hb
    · intro b b' en en' v v' hb hb' hv hv' heq
      rw [hget] at hb hb'
      split at hb
      · split at hb'
        · rename_i h1 h2; rw [h1, h2]
        · cases hb'
      · cases hb
    · intro b hb
      have : 14 ≤ b := hb
      simp [names]; omega
    · intro g hg
      exact ⟨_, by simp only [names]; rw [if_pos hg], rfl, rfl⟩
  have hc := (run_ok Tryz.rx_ok (G := 14) (Nat.le_refl _) 20000).call 3 [.string s] (Tryz.st0 e) _ hrun (names W) [.string s] W (.cons (.string s) .nil) hrep
  intro cs
  obtain ⟨en, w', fr, ⟨v, v', ρ', l, h1, h2, h3, h4, h5⟩, h7⟩ := hc cs
  refine ⟨en, w', fr, ⟨?_, ?_⟩, h7⟩
  · cases h1
    cases h3
    exact h2
  · refine ⟨h5.os, h5.tape, h5.output, h5.size, fun k hk => h5.same k hk ?_⟩
    intro b hb en' v0 hb' hv0
    have hl : b ∈ s'.log := by
      have := h5.log
      rw [this]
      exact List.mem_append_left _ hb
    have := hlog b hl
    rw [hget] at hb'
    split at hb'
    · omega
    · cases hb'

/-! ### The table, off what the row lists -/
theorem laid_row {P : Program} {w : World} : ∀ {l : List (String × DataW Unit)} {ps : List MemPlace}, DataW.LaidVars P w l ps → ∀ {n : String} {d : DataW Unit}, (n, d) ∈ l →
    ∃ g t cs fuel p, P.globalNamed n = some g ∧ (P.globals[g]?).map (·.type) = some t ∧ w.var? P n = some cs ∧ DataW.trod (fun _ => ()) P w 0 (fun _ => true) false fuel t cs.toList = some (d, p) ∧ ∀ x ∈ MemPlace.row ⟨g, 0, none⟩ cs.size, x ∈ ps
  | [], _, _, _, _, hm => by cases hm
  | (n0, d0) :: l, ps, h, n, d, hm => by
    obtain ⟨g, t, cs, fuel, p, q, h1, h2, h3, h4, h5, h6⟩ := h
    rcases List.mem_cons.1 hm with hm | hm
    · cases hm
      exact ⟨g, t, cs, fuel, p, h1, h2, h3, h4, fun x hx => by rw [h6]; simp [hx]⟩
    · obtain ⟨g', t', cs', fuel', p', k1, k2, k3, k4, k5⟩ := laid_row h5 hm
      exact ⟨g', t', cs', fuel', p', k1, k2, k3, k4, fun x hx => by rw [h6]; simp [k5 x hx]⟩

def pow10s : List Int := (List.range 20).map fun i => (10 : Int) ^ i
theorem table_at {W : World} (h : laidMet Tryz.prog Rows.consoleNoneRow.laid W) : ∃ e, W.heap[6]? = some (.cells ((List.range 20).map fun i => Value.int .u64 (10 ^ i)).toArray e (0, 0)) := by
  obtain ⟨ps, h1, _, h2⟩ := h
  have hmem : ("internal/strconv.uint64pow10", (Lib.tabData .u64 pow10s : DataW Unit)) ∈ Rows.consoleNoneRow.laid := by
    have : (Lib.tabData .u64 pow10s : DataW Unit) = Rows.laid_internal_strconv_uint64pow10 := by rfl
    rw [this]
    simp [Rows.consoleNoneRow]
  obtain ⟨g, t, cs, fuel, p, k1, k2, k3, k4, k5⟩ := laid_row h1 hmem
  have hg : Tryz.prog.globalNamed "internal/strconv.uint64pow10" = some 6 := by kernel_rfl
  have ht : (Tryz.prog.globals[6]?).map (·.type) = some 384 := by kernel_rfl
  obtain rfl := Option.some.inj (hg.symm.trans k1)
  obtain rfl := Option.some.inj (ht.symm.trans k2)
  have hcs := Lib.cells_of_tab (e := 109) (n := 20) (k := .u64) Tryz.underlying384 Tryz.underlying109 (by kernel_rfl) (by kernel_rfl) k4
  have hlen : cs.size = 20 := by
    rw [← Array.length_toList, hcs]; rfl
  obtain ⟨⟨c, e, hc⟩, _⟩ := h2 6 0 (k5 _ (MemPlace.mem_row.2 ⟨0, by omega, rfl⟩))
  refine ⟨e, ?_⟩
  unfold World.var? at k3
  rw [hg] at k3
  simp only [Option.bind_some, hc, Option.some.injEq] at k3
  subst k3
  rw [hc]
  congr 2
  apply Array.ext'
  rw [hcs]
  simp [pow10s]

/-! ### The row -/
theorem Tryz.own : ownKnob Tryz.prog.godebug = none := by kernel_rfl

noncomputable def laidWorld (os : Os) : World := World.laidAll Tryz.prog os Rows.consoleNoneRow.laid
set_option maxRecDepth 1000000 in
theorem laid_met (os : Os) (args : Array Value) : laidMet Tryz.prog Rows.consoleNoneRow.laid ((laidWorld os).forCall (fun _ _ => 0) ⟨#[], args, []⟩).memory :=
  laidMet_laidAll args (by kernel_rfl) (by kernel_rfl)

set_option maxRecDepth 1000000 in
theorem witness_row (os : Os) {H : Type} (enc : TypeId × Value → H) :
    (OpenSpec.ofChange Rows.consoleNoneSpec).preRow enc Tryz.prog Tryz.f3 Rows.consoleNoneRow.domain false Rows.consoleNoneRow.laid ((laidWorld os).forCall (fun _ _ => 0) ⟨#[], #[.string ⟨#[]⟩], []⟩).memory #[.string ⟨#[]⟩] := by
  have hw : (DataW.whole enc Tryz.prog ((laidWorld os).forCall (fun _ _ => 0) ⟨#[], #[.string ⟨#[]⟩], []⟩).memory Tryz.f3.params.toList (OpenSpec.ofChange Rows.consoleNoneSpec).vars false #[Value.string ⟨#[]⟩].toList 8).map (fun x => (x.1, x.2.1)) =
      some ([.lit (.string [])], []) := by kernel_rfl
  obtain ⟨⟨x1, x2, x3⟩, hx, hx1⟩ := Option.map_eq_some_iff.1 hw
  simp only [Prod.mk.injEq] at hx1
  obtain ⟨rfl, rfl⟩ := hx1
  exact OpenSpec.preRow_of_cond 8 hx (by kernel_rfl) (fun k hk => by cases hk) (by kernel_rfl) (laid_met os _)

set_option maxRecDepth 1000000 in
theorem lifted (os : Os) (started : os.Started) (H : Type) (enc : TypeId × Value → H) (F : Stop.Interp) :
    ReturnsInHanded {} Tryz.checked os 3 .any ((OpenSpec.ofChange Rows.consoleNoneSpec).preRow enc Tryz.prog Tryz.f3 Rows.consoleNoneRow.domain false Rows.consoleNoneRow.laid)
      (((OpenSpec.ofChange Rows.consoleNoneSpec).at F).post enc Tryz.prog Tryz.f3 false true false false) := by
  refine returnsInHanded_of_row (C := Tryz.checked) (s := OpenSpec.ofChange Rows.consoleNoneSpec) Tryz.own started (by kernel_rfl) Tryz.func3
    (witness_row_atRef (enc := enc) (C := Tryz.checked) false (laidWorld os) #[.string ⟨#[]⟩] (World.laidAll_os _ _ _) (by kernel_rfl) (by kernel_rfl) (by kernel_rfl) (witness_row os enc)) ?_
  intro W base args ds gs before hval0 hW _ _ _ hL _ _
  have hval : ∀ (j : Nat) t v, Tryz.f3.params[j]? = some t → args[j]? = some v → Value.okWide Tryz.prog W .any base t v := hval0
  have hW' := hW
  obtain ⟨p, q, hA0, hV0, rfl, _, _⟩ := hW
  have hA : DataW.TrodAll enc Tryz.prog W 0 (fun _ => true) true Tryz.f3.params.toList args.toList ds p := hA0
  rw [Tryz.params3] at hA hval
  obtain ⟨v0, d0, rfl, rfl, h0⟩ := trodAll_one hA
  obtain ⟨rfl, rfl⟩ := trodVars_none hV0
  obtain ⟨s, rfl, rfl, rfl, ws⟩ := open_string Tryz.underlying9 (hval 0 9 v0 rfl rfl) h0
  clear hA0 hV0 hval0
  obtain ⟨e, h6⟩ := table_at (W := W) hL
  refine (law s W e h6).mono ?_
  rintro en W' ⟨rfl, bel⟩
  have e1 : (((OpenSpec.ofChange Rows.consoleNoneSpec).at F).fn H ([.lit (.string s.data.toList)] ++ [])) = { results := [.lit (.bool true)], args := [.lit (.string s.data.toList)] } := rfl
  refine ⟨_, rfl, _, _, _, [], [], [], hW', ?_, ?_, ?_, bel.frame _, fun h => by cases h⟩
  · rw [e1]; exact trodAll_mk1 (shut_bool Tryz.underlying4 true)
  · rw [e1]; exact trodAll_mk1 (shut_string Tryz.underlying9 ws)
  · rw [e1]; rfl

set_option maxRecDepth 1000000 in
/-- The row's closed facts, one by one. -/
theorem facts : joinedFacts Tryz.prog 3 Tryz.f3 (OpenSpec.ofChange Rows.consoleNoneSpec).bare Rows.consoleNoneRow = true := by
  unfold joinedFacts
  simp only [Bool.and_eq_true]
  exact ⟨⟨⟨⟨⟨⟨⟨⟨⟨⟨⟨⟨⟨⟨⟨⟨⟨⟨⟨⟨⟨⟨⟨⟨⟨⟨⟨⟨⟨⟨⟨jf0, jf1⟩, jf2⟩, jf3⟩, jf4⟩, jf5⟩, jf6⟩, jf7⟩, jf8⟩, jf9⟩, jf10⟩, jf11⟩, jf12⟩, jf13⟩, jf14⟩, jf15⟩, jf16⟩, jf17⟩, jf18⟩, jf19⟩, jf20⟩, jf21⟩, jf22⟩, jf23⟩, jf24⟩, jf25⟩, jf26⟩, jf27⟩, (by kernel_rfl)⟩, jf29⟩, jf30⟩, jf31⟩

theorem consoleNone_holds : Rows.ConsoleNoneSaid :=
  OpenClaim.holds_of_cond 3 Tryz.f3 rfl rfl rfl rfl rfl rfl rfl ⟨rfl, rfl, rfl, rfl, rfl⟩ rfl rfl rfl rfl rfl (by kernel_rfl) Tryz.func3 facts
    (of_decide_eq_true (by kernel_rfl)) (by unfold Func.isWrapper; rw [if_neg (of_decide_eq_false (by kernel_rfl))]; exact ⟨rfl, rfl⟩)
    (fun os started H enc _ F0 => by rw [OpenClaim.pre_eq_preRow]; exact lifted os started H enc F0)
#print axioms consoleNone_holds
end Go.Proofs.YtomjllcnpddiaaaGreatDoor
