import Derived.Test.YtoobfpnphhcaoaaGreatDoorT34
import Derived.ProofKit
import Derived.Deep.DeepHandedRow
set_option linter.unusedVariables false
set_option linter.unusedSimpArgs false
/- The card's closed facts: no goroutine is started. -/
namespace Go.Proofs.YtoobfpnphhcaoaaGreatDoor.serverNil
theorem noGoes : Tryz.prog.funcs.toList.any Func.goes = false := by kernel_rfl
theorem goes_none (f : FuncId) : Tryz.prog.goes f = false := by
  have hall : ∀ (g : Nat) (fn : Func), Tryz.prog.funcs[g]? = some fn → fn.goes = false := fun g fn h => by
    have hm : fn ∈ Tryz.prog.funcs.toList := Array.mem_toList_iff.2 (Array.mem_of_getElem? h)
    cases hg : fn.goes with
    | false => rfl
    | true => exact absurd (List.any_eq_true.2 ⟨fn, hm, hg⟩) (by rw [noGoes]; exact Bool.false_ne_true)
  have h2 : Tryz.prog.funcs.any Func.goes = false := by rw [← Array.any_toList]; exact noGoes
  have h1 : (Tryz.prog.closure f).any (fun g => (Tryz.prog.funcs[g]?).any Func.goes) = false := by
    rw [List.any_eq_false]
    intro g _
    cases hg : Tryz.prog.funcs[g]? with
    | none => exact Bool.false_ne_true
    | some fn =>
      show ¬ fn.goes = true
      rw [hall g fn hg]
      exact Bool.false_ne_true
  unfold Program.goes
  rw [h1, h2, Bool.and_false]
  rfl
set_option maxRecDepth 100000 in
theorem kGoes : false = Rows.serverNilRow.goesBy Tryz.prog := by
  have h : Tryz.prog.goesFrom "refectory/refectorylaw25.ServerNil" = false := by
    unfold Program.goesFrom
    rw [named]
    rw [Option.any_some]
    exact goes_none 5
  show false = (Tryz.prog.goesFrom "refectory/refectorylaw25.ServerNil" || false)
  rw [h]
  rfl
end Go.Proofs.YtoobfpnphhcaoaaGreatDoor.serverNil
