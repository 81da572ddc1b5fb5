/- Plain facts: GatherNobody. -/
import Derived.Test.YtffmmflapagkhaaDoorGathWF
import Derived.Test.YtffmmflapagkhaaDoorCnX
set_option linter.unusedVariables false
set_option linter.unusedSimpArgs false
set_option linter.unusedSectionVars false
namespace Go.Proofs.YtffmmflapagkhaaDoor.Wk
open Go Go.Cn
theorem alive_eq : parrellaw19_alive = some true := by kernel_rfl
theorem last_eq (x : T_parrelref19_Got) : parrellaw19_GatherNobody_l1000 x big = some true := by kernel_rfl
theorem nobody_law (x : T_parrelref19_Got) (_ : wfL (c_T_parrelref19_Got x)) : parrellaw19_GatherNobody x = some true := by
  unfold parrellaw19_GatherNobody
  rw [alive_eq]
  split
  · rfl
  · exact last_eq x
end Go.Proofs.YtffmmflapagkhaaDoor.Wk
