/- WHETHER AN OPERATION MAY BE, by the reference: any operation. -/
import Derived.Test.YtgmhjgknfeihiaaDoorORef1
import Derived.Test.YtgmhjgknfeihiaaDoorORef2
import Derived.Test.YtgmhjgknfeihiaaDoorORef3
import Derived.Test.YtgmhjgknfeihiaaDoorORef4
import Derived.Test.YtgmhjgknfeihiaaDoorORef5
import Derived.Test.YtgmhjgknfeihiaaDoorORef6
namespace Go.Proofs.YtgmhjgknfeihiaaDoor
open Go.RowKit Go.Joins
theorem refRight_any (o : OpG) (hf : o.fine) (w : World) : Calls Tryd.prog 10 #[o.val] w fun e w' => e = .returned (.bool o.rightP) ∧ Below w.heap.size w w' := by
  by_cases k1 : o.kd = 1
  · exact refRight_k1 o hf w k1
  by_cases k2 : o.kd = 2
  · exact refRight_k2 o hf w k2
  by_cases k3 : o.kd = 3
  · exact refRight_k3 o hf w k3
  by_cases k4 : o.kd = 4
  · exact refRight_k4 o hf w k4
  by_cases k5 : o.kd = 5
  · exact refRight_k5 o hf w k5
  exact refRight_k6 o hf w ⟨k1, k2, k3, k4, k5⟩
end Go.Proofs.YtgmhjgknfeihiaaDoor
