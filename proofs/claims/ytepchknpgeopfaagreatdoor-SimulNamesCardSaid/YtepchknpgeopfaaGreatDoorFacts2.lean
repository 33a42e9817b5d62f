/-
  locklesslaw22.SimulNames: closed facts of the row, by the kernel, part 2.
-/
import Derived.Test.YtepchknpgeopfaaGreatDoorRows
import Derived.JoinedCond
import Derived.KernelRfl
set_option linter.unusedVariables false
set_option linter.unusedSimpArgs false
namespace Go.Proofs.YtepchknpgeopfaaGreatDoor.simulNames
set_option maxRecDepth 100000
theorem k11 : ((Rows.simulNamesRow.recurses == Tryz.prog.recurses 3)) = true := by kernel_rfl
theorem k12 : ((Rows.simulNamesRow.named == Tryz.prog.varsNamed 3)) = true := by kernel_rfl
end Go.Proofs.YtepchknpgeopfaaGreatDoor.simulNames
