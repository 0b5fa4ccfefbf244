/- A REPLICA's NEXT STAMP, by package stamp. -/
import Derived.Test.YtgmhjgknfeihiaaDoorStamp
namespace Go.Proofs.YtgmhjgknfeihiaaDoor
open Go.RowKit
set_option linter.unusedVariables false
set_option linter.unusedSimpArgs false
set_option maxHeartbeats 1000000 in
theorem next_any (s r : Int) (w : World) : Calls Tryd.prog 13 #[.int .i64 s, .int .i64 r] w fun e w' => e = .returned (.tuple #[st (nextN s r) (nextR s r), .int .i64 (nextE s r)]) ∧ Below w.heap.size w w' := by
  by_cases h1 : r < 0
  · have hc : r < 0 ∨ 8 ≤ r ∨ s < 0 := Or.inl h1
    rw [show nextN s r = 0 from if_pos hc, show nextR s r = 0 from if_pos hc, show nextE s r = 1 from if_pos hc]
    clear hc
    go_enter Tryd.func13, Tryd.ntmps13
    go_wp2
    refine bodyPost_ret (v := .tuple #[st 0 0, .int .i64 1]) (by simp [results, Tryd.results13, go_sem]) rfl ⟨rfl, ?_⟩
    (repeat' (first | with_reducible exact Below.refl _ _ | with_reducible assumption | with_reducible refine below_ext ?_ ?_ | with_reducible refine Below.alloc ?_ ?_ _ | with_reducible refine Below.drew ?_ | with_reducible refine below_drewN ?_ _ | with_reducible refine Below.setCell ?_ ?_ _ | go_size))
  · have b1 : decide (r < 0) = false := by simpa using h1
    by_cases h2 : 8 ≤ r
    · have hc : r < 0 ∨ 8 ≤ r ∨ s < 0 := Or.inr (Or.inl h2)
      rw [show nextN s r = 0 from if_pos hc, show nextR s r = 0 from if_pos hc, show nextE s r = 1 from if_pos hc]
      clear hc h1
      go_enter Tryd.func13, Tryd.ntmps13
      go_wp2
      refine bodyPost_ret (v := .tuple #[st 0 0, .int .i64 1]) (by simp [results, Tryd.results13, go_sem]) rfl ⟨rfl, ?_⟩
      (repeat' (first | with_reducible exact Below.refl _ _ | with_reducible assumption | with_reducible refine below_ext ?_ ?_ | with_reducible refine Below.alloc ?_ ?_ _ | with_reducible refine Below.drew ?_ | with_reducible refine below_drewN ?_ _ | with_reducible refine Below.setCell ?_ ?_ _ | go_size))
    · have b2 : decide (8 ≤ r) = false := by simpa using h2
      by_cases h3 : s < 0
      · have hc : r < 0 ∨ 8 ≤ r ∨ s < 0 := Or.inr (Or.inr h3)
        rw [show nextN s r = 0 from if_pos hc, show nextR s r = 0 from if_pos hc, show nextE s r = 1 from if_pos hc]
        clear hc h1 h2
        go_enter Tryd.func13, Tryd.ntmps13
        go_wp2
        refine bodyPost_ret (v := .tuple #[st 0 0, .int .i64 1]) (by simp [results, Tryd.results13, go_sem]) rfl ⟨rfl, ?_⟩
        (repeat' (first | with_reducible exact Below.refl _ _ | with_reducible assumption | with_reducible refine below_ext ?_ ?_ | with_reducible refine Below.alloc ?_ ?_ _ | with_reducible refine Below.drew ?_ | with_reducible refine below_drewN ?_ _ | with_reducible refine Below.setCell ?_ ?_ _ | go_size))
      · have b3 : decide (s < 0) = false := by simpa using h3
        have hc : ¬ (r < 0 ∨ 8 ≤ r ∨ s < 0) := fun h => h.elim h1 (fun h => h.elim h2 h3)
        by_cases h4 : 1048576 ≤ s
        · rw [show nextN s r = 0 from (if_neg hc).trans (if_pos h4), show nextR s r = 0 from (if_neg hc).trans (if_pos h4), show nextE s r = 11 from (if_neg hc).trans (if_pos h4)]
          clear hc h1 h2 h3
          go_enter Tryd.func13, Tryd.ntmps13
          go_wp2
          refine bodyPost_ret (v := .tuple #[st 0 0, .int .i64 11]) (by simp [results, Tryd.results13, go_sem]) rfl ⟨rfl, ?_⟩
          (repeat' (first | with_reducible exact Below.refl _ _ | with_reducible assumption | with_reducible refine below_ext ?_ ?_ | with_reducible refine Below.alloc ?_ ?_ _ | with_reducible refine Below.drew ?_ | with_reducible refine below_drewN ?_ _ | with_reducible refine Below.setCell ?_ ?_ _ | go_size))
        · rw [show nextN s r = s + 1 from (if_neg hc).trans (if_neg h4), show nextR s r = r from (if_neg hc).trans (if_neg h4), show nextE s r = 0 from (if_neg hc).trans (if_neg h4)]
          have k1 : 0 ≤ r := by omega
          have k2 : r < 8 := by omega
          have k3 : 0 ≤ s := by omega
          have k4 : s < 1048576 := by omega
          clear hc h1 h2 h3 h4
          go_enter Tryd.func13, Tryd.ntmps13
          go_wp2
          refine bodyPost_ret (v := .tuple #[st (s + 1) r, .int .i64 0]) (by simp [results, Tryd.results13, go_sem]) rfl ⟨rfl, ?_⟩
          (repeat' (first | with_reducible exact Below.refl _ _ | with_reducible assumption | with_reducible refine below_ext ?_ ?_ | with_reducible refine Below.alloc ?_ ?_ _ | with_reducible refine Below.drew ?_ | with_reducible refine below_drewN ?_ _ | with_reducible refine Below.setCell ?_ ?_ _ | go_size))
end Go.Proofs.YtgmhjgknfeihiaaDoor
