/-
  locklesslaw22.SimulNames: closed facts of the row, by the kernel, part 1.
-/
import Derived.Test.YtepchknpgeopfaaGreatDoorRows
import Derived.JoinedCond
import Derived.KernelRfl
set_option linter.unusedVariables false
set_option linter.unusedSimpArgs false
namespace Go.Proofs.YtepchknpgeopfaaGreatDoor.simulNames
set_option maxRecDepth 100000
theorem k9 : ((Rows.simulNamesRow.inPlace == Tryz.prog.inPlace 3)) = true := by kernel_rfl
theorem k10 : ((Rows.simulNamesRow.unfollowed == Tryz.prog.unfollowed 3)) = true := by kernel_rfl
end Go.Proofs.YtepchknpgeopfaaGreatDoor.simulNames
