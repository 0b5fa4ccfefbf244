/- WHETHER AN OPERATION MAY BE, by package ops: any operation. -/
import Derived.Test.YtiamohfpohjdpaaDoorORight1
import Derived.Test.YtiamohfpohjdpaaDoorORight2
import Derived.Test.YtiamohfpohjdpaaDoorORight3
import Derived.Test.YtiamohfpohjdpaaDoorORight4
import Derived.Test.YtiamohfpohjdpaaDoorORight5
import Derived.Test.YtiamohfpohjdpaaDoorORight6
namespace Go.Proofs.YtiamohfpohjdpaaDoor
open Go.RowKit Go.Joins
theorem opsRight_any (o : OpG) (hf : o.fine) (w : World) : Calls Tryd.prog 21 #[o.val] w fun e w' => e = .returned (.bool o.rightP) ∧ Below w.heap.size w w' := by
  by_cases k1 : o.kd = 1
  · exact opsRight_k1 o hf w k1
  by_cases k2 : o.kd = 2
  · exact opsRight_k2 o hf w k2
  by_cases k3 : o.kd = 3
  · exact opsRight_k3 o hf w k3
  by_cases k4 : o.kd = 4
  · exact opsRight_k4 o hf w k4
  by_cases k5 : o.kd = 5
  · exact opsRight_k5 o hf w k5
  exact opsRight_k6 o hf w ⟨k1, k2, k3, k4, k5⟩
end Go.Proofs.YtiamohfpohjdpaaDoor
