import Derived.Test.YtomjllcnpddiaaaGreatDoorRxSeat
set_option linter.unusedSimpArgs false
set_option linter.unusedVariables false
set_option linter.unusedSectionVars false
namespace Go.Proofs
open Go Go.Rx
/-- The one variable that the run reads: a table of the library's, behind whatever element type. -/
noncomputable def Tryz.st0 (e : TypeId) : St := { h := PT.set .leaf 6 (some (.cells ((List.range 20).map fun i => .int .u64 (10 ^ i)) e (0, 0) true)), next := 14, log := [] }
noncomputable def Tryz.body3 : Code := (Tryz.f3.body).getD .skip
noncomputable def tailOf : Code → Code
  | .seq _ (.seq (.seq _ c) r) => .seq (.seq .skip c) r
  | c => c
noncomputable def Tryz.tmc (c : Bool) (b : ByteArray) : List Value :=
  [.string b, undef, .bool false, undef, undef, .string b, .int .i64 (.ofNat b.size), .bool c, undef, undef, undef, undef, undef, undef, undef, undef, undef, undef, undef, undef, undef, undef, undef, undef, undef, undef, undef, undef]
noncomputable def Tryz.G (e : TypeId) (c : Bool) (b : ByteArray) : Option R := run Tryz.prog Tryz.rx 19998 (.code (tailOf Tryz.body3) ⟨3, Tryz.tmc c b, [], none⟩) (Tryz.st0 e)
/-- It returns; its result is true; it has written no name that was there. -/
noncomputable def okG (r : Option R) : Bool := match r with
  | some ⟨.ret, tm, [], s⟩ => (match nthD undef tm 2 with | .bool true => true | _ => false) && alln (fun n => Nat.ble 14 n) s.log
  | _ => false
set_option maxRecDepth 1000000
theorem Tryz.law_eq (e : TypeId) (b : ByteArray) : run Tryz.prog Tryz.rx 19999 (.code Tryz.body3 ⟨3, .string b :: List.replicate 27 undef, [], none⟩) (Tryz.st0 e) = Tryz.G e (decide ((Int.ofNat b.size) > 320)) b := by kernel_rfl
end Go.Proofs
