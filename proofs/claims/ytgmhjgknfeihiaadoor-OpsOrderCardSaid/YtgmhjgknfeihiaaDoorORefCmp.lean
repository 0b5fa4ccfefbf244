/- WHICH OF TWO STAMPS COMES FIRST, by the document. -/
import Derived.Test.YtgmhjgknfeihiaaDoorStamp
namespace Go.Proofs.YtgmhjgknfeihiaaDoor
open Go.RowKit
set_option linter.unusedVariables false
set_option linter.unusedSimpArgs false
def cmpR (n r m q : Int) : Int := if n < m then -1 else if m < n then 1 else if r < q then -1 else if q < r then 1 else 0
theorem cmpR_eq (n r m q : Int) : cmpR n r m q = cmpS n r m q := by
  unfold cmpR cmpS cmpI; repeat (first | omega | split)
set_option maxHeartbeats 2000000 in
theorem refCompare_any (n r m q : Int) (w : World) : Calls Tryd.prog 21 #[st n r, st m q] w fun e w' => e = .returned (.int .i64 (cmpS n r m q)) ∧ Below w.heap.size w w' := by
  rw [← cmpR_eq]
  by_cases h1 : n < m
  · rw [show cmpR n r m q = -1 from if_pos h1]
    go_enter Tryd.func21, Tryd.ntmps21
    go_wp2
    go_ret
    exact ⟨rfl, by (repeat' (first | with_reducible exact Below.refl _ _ | with_reducible assumption | with_reducible refine below_ext ?_ ?_ | with_reducible refine Below.alloc ?_ ?_ _ | with_reducible refine Below.drew ?_ | with_reducible refine below_drewN ?_ _ | with_reducible refine Below.setCell ?_ ?_ _ | go_size))⟩
  · by_cases h2 : m < n
    · rw [show cmpR n r m q = 1 from (if_neg h1).trans (if_pos h2)]
      go_enter Tryd.func21, Tryd.ntmps21
      go_wp2
      go_ret
      exact ⟨rfl, by (repeat' (first | with_reducible exact Below.refl _ _ | with_reducible assumption | with_reducible refine below_ext ?_ ?_ | with_reducible refine Below.alloc ?_ ?_ _ | with_reducible refine Below.drew ?_ | with_reducible refine below_drewN ?_ _ | with_reducible refine Below.setCell ?_ ?_ _ | go_size))⟩
    · by_cases h3 : r < q
      · rw [show cmpR n r m q = -1 from (if_neg h1).trans ((if_neg h2).trans (if_pos h3))]
        go_enter Tryd.func21, Tryd.ntmps21
        go_wp2
        go_ret
        exact ⟨rfl, by (repeat' (first | with_reducible exact Below.refl _ _ | with_reducible assumption | with_reducible refine below_ext ?_ ?_ | with_reducible refine Below.alloc ?_ ?_ _ | with_reducible refine Below.drew ?_ | with_reducible refine below_drewN ?_ _ | with_reducible refine Below.setCell ?_ ?_ _ | go_size))⟩
      · by_cases h4 : q < r
        · rw [show cmpR n r m q = 1 from (if_neg h1).trans ((if_neg h2).trans ((if_neg h3).trans (if_pos h4)))]
          go_enter Tryd.func21, Tryd.ntmps21
          go_wp2
          go_ret
          exact ⟨rfl, by (repeat' (first | with_reducible exact Below.refl _ _ | with_reducible assumption | with_reducible refine below_ext ?_ ?_ | with_reducible refine Below.alloc ?_ ?_ _ | with_reducible refine Below.drew ?_ | with_reducible refine below_drewN ?_ _ | with_reducible refine Below.setCell ?_ ?_ _ | go_size))⟩
        · rw [show cmpR n r m q = 0 from (if_neg h1).trans ((if_neg h2).trans ((if_neg h3).trans (if_neg h4)))]
          go_enter Tryd.func21, Tryd.ntmps21
          go_wp2
          go_ret
          exact ⟨rfl, by (repeat' (first | with_reducible exact Below.refl _ _ | with_reducible assumption | with_reducible refine below_ext ?_ ?_ | with_reducible refine Below.alloc ?_ ?_ _ | with_reducible refine Below.drew ?_ | with_reducible refine below_drewN ?_ _ | with_reducible refine Below.setCell ?_ ?_ _ | go_size))⟩
end Go.Proofs.YtgmhjgknfeihiaaDoor
