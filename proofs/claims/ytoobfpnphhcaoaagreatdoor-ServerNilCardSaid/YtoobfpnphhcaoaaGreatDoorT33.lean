import Derived.Test.YtoobfpnphhcaoaaGreatDoorT32
set_option linter.unusedVariables false
set_option linter.unusedSimpArgs false
namespace Go.Proofs.YtoobfpnphhcaoaaGreatDoor.serverNil
open Go.ChangeShapes Go.WideShapes Go.ChangeAt Go.RowKit

def leaf : DataW Unit → List Value
  | .lit (.int k n) => [.int k n]
  | _ => []
def leaves : DataW Unit → List Value
  | .agg l => l.flatMap fun x => match x with
    | .agg m => m.flatMap leaf
    | x => leaf x
  | _ => []

/-- The settled world, its tables holding what their initialisers lay. -/
def lay (h : Array Obj) (g : Nat) (d : DataW Unit) : Array Obj := h.modify g fun
  | .cells _ t frozen => .cells (leaves d).toArray t frozen
  | o => o

noncomputable def laidWorld (os : Os) : World :=
  { World.holding Tryz.prog os ⟨#[], #[], []⟩ with heap := lay (lay (lay (lay (World.holding Tryz.prog os ⟨#[], #[], []⟩).heap 0 Rows.laid_refectory_share_ways) 1 Rows.laid_unicode_utf8_first) 2 Rows.laid_unicode_utf8_acceptRanges) 3 Rows.laid_refectory_sha_constants }

theorem laid_met (os : Os) : laidMet Tryz.prog Rows.serverNilRow.laid ((laidWorld os).forCall (fun _ _ => 0) ⟨#[], #[.int .i64 0, .slice none 0 0, .bool false], []⟩).memory :=
  laidMet_of_run' 8 (by kernel_rfl) (by kernel_rfl)


end Go.Proofs.YtoobfpnphhcaoaaGreatDoor.serverNil
