/- VECTORS: known, Has, With and their references. -/
import Derived.Test.YtplnpgmchibnlaaVecLaws
import Derived.BigGuardPart
namespace Go.Proofs.Ytplnpgmchibnlaa
open Go.RowKit

theorem known_yes (n r : Int) (h0 : 0 ≤ r) (h8 : r < 8) (w : World) : Calls Try.prog 19 #[st n r] w fun e w' => e = .returned (.bool true) ∧ Below w.heap.size w w' := by
  go_enter Try.func19, Try.ntmps19
  go_wp2
  go_ret
  exact ⟨rfl, by go_grown⟩
theorem known_no (n r : Int) (h : ¬ (0 ≤ r ∧ r < 8)) (w : World) : Calls Try.prog 19 #[st n r] w fun e w' => e = .returned (.bool false) ∧ Below w.heap.size w w' := by
  by_cases h0 : 0 ≤ r
  · have h8 : 8 ≤ r := by omega
    go_enter Try.func19, Try.ntmps19
    go_wp2
    go_ret
    exact ⟨by simp [h8], by go_grown⟩
  · have h0' : r < 0 := by omega
    clear h h0
    go_enter Try.func19, Try.ntmps19
    go_wp2
    go_ret
    exact ⟨rfl, by go_grown⟩
set_option maxHeartbeats 4000000 in
theorem has_any (a : V8) (n r : Int) (w : World) : Calls Try.prog 10 #[a.val, st n r] w fun e w' => e = .returned (.bool (a.has n r)) ∧ Below w.heap.size w w' := by
  have hx := ext_cell
  by_cases h : 0 ≤ r ∧ r < 8
  · obtain ⟨h0, h8⟩ := h
    rcases known8 h0 h8 with rfl | rfl | rfl | rfl | rfl | rfl | rfl | rfl
    all_goals
      clear h0 h8
      go_enter Try.func10, Try.ntmps10
      go_wp2
      refine region_ext (by kernel_rfl) (by kernel_rfl) ?_
      repeat (go_big_quiet_step ((go_at_call 19; exact calls_ext (known_yes _ _ (by decide) (by decide) _))))
      refine wpQuiet_nil ?_
      rintro _ ⟨nq, rfl⟩
      go_wp2
      go_ret
      exact ⟨by simp [V8.has, V8.at, knownB], below_ext (by go_grown) (by simp; omega)⟩
  · rw [has_no a n r h]
    have hk := known_no n r h
    clear h
    go_enter Try.func10, Try.ntmps10
    go_wp2
    refine region_ext (by kernel_rfl) (by kernel_rfl) ?_
    repeat (go_big_quiet_step ((go_at_call 19; exact calls_ext (hk _))))
    refine wpQuiet_nil ?_
    rintro _ ⟨nq, rfl⟩
    go_wp2
    go_ret
    exact ⟨rfl, below_ext (by go_grown) (by simp; omega)⟩

set_option maxHeartbeats 1000000 in
theorem with_0 (a : V8) (n : Int) (w : World) : Calls Try.prog 12 #[a.val, st n 0] w fun e w' => e = .returned (V8.val ⟨mx a.x0 n, a.x1, a.x2, a.x3, a.x4, a.x5, a.x6, a.x7⟩) ∧ Below w.heap.size w w' := by
  have hmx := run_mx
  go_enter Try.func12, Try.ntmps12
  go_wp2_with (go_at_call 19; with_reducible refine (calls_ext0 (known_yes _ _ (by decide) (by decide) _)).mono ?_; rintro e w' ⟨rfl, nq, rfl⟩)
  go_region
  go_wp2
  refine bodyPost_ret (v := V8.val ⟨mx a.x0 n, a.x1, a.x2, a.x3, a.x4, a.x5, a.x6, a.x7⟩) (by simp [results, Try.results12, go_sem]) rfl ⟨rfl, ?_⟩
  (repeat' (first | with_reducible exact Below.refl _ _ | with_reducible assumption | with_reducible refine below_ext ?_ ?_ | with_reducible refine Below.alloc ?_ ?_ _ | with_reducible refine Below.drew ?_ | with_reducible refine Below.setCell ?_ ?_ _ | go_size))
set_option maxHeartbeats 1000000 in
theorem with_1 (a : V8) (n : Int) (w : World) : Calls Try.prog 12 #[a.val, st n 1] w fun e w' => e = .returned (V8.val ⟨a.x0, mx a.x1 n, a.x2, a.x3, a.x4, a.x5, a.x6, a.x7⟩) ∧ Below w.heap.size w w' := by
  have hmx := run_mx
  go_enter Try.func12, Try.ntmps12
  go_wp2_with (go_at_call 19; with_reducible refine (calls_ext0 (known_yes _ _ (by decide) (by decide) _)).mono ?_; rintro e w' ⟨rfl, nq, rfl⟩)
  go_region
  go_wp2
  refine bodyPost_ret (v := V8.val ⟨a.x0, mx a.x1 n, a.x2, a.x3, a.x4, a.x5, a.x6, a.x7⟩) (by simp [results, Try.results12, go_sem]) rfl ⟨rfl, ?_⟩
  (repeat' (first | with_reducible exact Below.refl _ _ | with_reducible assumption | with_reducible refine below_ext ?_ ?_ | with_reducible refine Below.alloc ?_ ?_ _ | with_reducible refine Below.drew ?_ | with_reducible refine Below.setCell ?_ ?_ _ | go_size))
set_option maxHeartbeats 1000000 in
theorem with_2 (a : V8) (n : Int) (w : World) : Calls Try.prog 12 #[a.val, st n 2] w fun e w' => e = .returned (V8.val ⟨a.x0, a.x1, mx a.x2 n, a.x3, a.x4, a.x5, a.x6, a.x7⟩) ∧ Below w.heap.size w w' := by
  have hmx := run_mx
  go_enter Try.func12, Try.ntmps12
  go_wp2_with (go_at_call 19; with_reducible refine (calls_ext0 (known_yes _ _ (by decide) (by decide) _)).mono ?_; rintro e w' ⟨rfl, nq, rfl⟩)
  go_region
  go_wp2
  refine bodyPost_ret (v := V8.val ⟨a.x0, a.x1, mx a.x2 n, a.x3, a.x4, a.x5, a.x6, a.x7⟩) (by simp [results, Try.results12, go_sem]) rfl ⟨rfl, ?_⟩
  (repeat' (first | with_reducible exact Below.refl _ _ | with_reducible assumption | with_reducible refine below_ext ?_ ?_ | with_reducible refine Below.alloc ?_ ?_ _ | with_reducible refine Below.drew ?_ | with_reducible refine Below.setCell ?_ ?_ _ | go_size))
set_option maxHeartbeats 1000000 in
theorem with_3 (a : V8) (n : Int) (w : World) : Calls Try.prog 12 #[a.val, st n 3] w fun e w' => e = .returned (V8.val ⟨a.x0, a.x1, a.x2, mx a.x3 n, a.x4, a.x5, a.x6, a.x7⟩) ∧ Below w.heap.size w w' := by
  have hmx := run_mx
  go_enter Try.func12, Try.ntmps12
  go_wp2_with (go_at_call 19; with_reducible refine (calls_ext0 (known_yes _ _ (by decide) (by decide) _)).mono ?_; rintro e w' ⟨rfl, nq, rfl⟩)
  go_region
  go_wp2
  refine bodyPost_ret (v := V8.val ⟨a.x0, a.x1, a.x2, mx a.x3 n, a.x4, a.x5, a.x6, a.x7⟩) (by simp [results, Try.results12, go_sem]) rfl ⟨rfl, ?_⟩
  (repeat' (first | with_reducible exact Below.refl _ _ | with_reducible assumption | with_reducible refine below_ext ?_ ?_ | with_reducible refine Below.alloc ?_ ?_ _ | with_reducible refine Below.drew ?_ | with_reducible refine Below.setCell ?_ ?_ _ | go_size))
set_option maxHeartbeats 1000000 in
theorem with_4 (a : V8) (n : Int) (w : World) : Calls Try.prog 12 #[a.val, st n 4] w fun e w' => e = .returned (V8.val ⟨a.x0, a.x1, a.x2, a.x3, mx a.x4 n, a.x5, a.x6, a.x7⟩) ∧ Below w.heap.size w w' := by
  have hmx := run_mx
  go_enter Try.func12, Try.ntmps12
  go_wp2_with (go_at_call 19; with_reducible refine (calls_ext0 (known_yes _ _ (by decide) (by decide) _)).mono ?_; rintro e w' ⟨rfl, nq, rfl⟩)
  go_region
  go_wp2
  refine bodyPost_ret (v := V8.val ⟨a.x0, a.x1, a.x2, a.x3, mx a.x4 n, a.x5, a.x6, a.x7⟩) (by simp [results, Try.results12, go_sem]) rfl ⟨rfl, ?_⟩
  (repeat' (first | with_reducible exact Below.refl _ _ | with_reducible assumption | with_reducible refine below_ext ?_ ?_ | with_reducible refine Below.alloc ?_ ?_ _ | with_reducible refine Below.drew ?_ | with_reducible refine Below.setCell ?_ ?_ _ | go_size))
set_option maxHeartbeats 1000000 in
theorem with_5 (a : V8) (n : Int) (w : World) : Calls Try.prog 12 #[a.val, st n 5] w fun e w' => e = .returned (V8.val ⟨a.x0, a.x1, a.x2, a.x3, a.x4, mx a.x5 n, a.x6, a.x7⟩) ∧ Below w.heap.size w w' := by
  have hmx := run_mx
  go_enter Try.func12, Try.ntmps12
  go_wp2_with (go_at_call 19; with_reducible refine (calls_ext0 (known_yes _ _ (by decide) (by decide) _)).mono ?_; rintro e w' ⟨rfl, nq, rfl⟩)
  go_region
  go_wp2
  refine bodyPost_ret (v := V8.val ⟨a.x0, a.x1, a.x2, a.x3, a.x4, mx a.x5 n, a.x6, a.x7⟩) (by simp [results, Try.results12, go_sem]) rfl ⟨rfl, ?_⟩
  (repeat' (first | with_reducible exact Below.refl _ _ | with_reducible assumption | with_reducible refine below_ext ?_ ?_ | with_reducible refine Below.alloc ?_ ?_ _ | with_reducible refine Below.drew ?_ | with_reducible refine Below.setCell ?_ ?_ _ | go_size))
set_option maxHeartbeats 1000000 in
theorem with_6 (a : V8) (n : Int) (w : World) : Calls Try.prog 12 #[a.val, st n 6] w fun e w' => e = .returned (V8.val ⟨a.x0, a.x1, a.x2, a.x3, a.x4, a.x5, mx a.x6 n, a.x7⟩) ∧ Below w.heap.size w w' := by
  have hmx := run_mx
  go_enter Try.func12, Try.ntmps12
  go_wp2_with (go_at_call 19; with_reducible refine (calls_ext0 (known_yes _ _ (by decide) (by decide) _)).mono ?_; rintro e w' ⟨rfl, nq, rfl⟩)
  go_region
  go_wp2
  refine bodyPost_ret (v := V8.val ⟨a.x0, a.x1, a.x2, a.x3, a.x4, a.x5, mx a.x6 n, a.x7⟩) (by simp [results, Try.results12, go_sem]) rfl ⟨rfl, ?_⟩
  (repeat' (first | with_reducible exact Below.refl _ _ | with_reducible assumption | with_reducible refine below_ext ?_ ?_ | with_reducible refine Below.alloc ?_ ?_ _ | with_reducible refine Below.drew ?_ | with_reducible refine Below.setCell ?_ ?_ _ | go_size))
set_option maxHeartbeats 1000000 in
theorem with_7 (a : V8) (n : Int) (w : World) : Calls Try.prog 12 #[a.val, st n 7] w fun e w' => e = .returned (V8.val ⟨a.x0, a.x1, a.x2, a.x3, a.x4, a.x5, a.x6, mx a.x7 n⟩) ∧ Below w.heap.size w w' := by
  have hmx := run_mx
  go_enter Try.func12, Try.ntmps12
  go_wp2_with (go_at_call 19; with_reducible refine (calls_ext0 (known_yes _ _ (by decide) (by decide) _)).mono ?_; rintro e w' ⟨rfl, nq, rfl⟩)
  go_region
  go_wp2
  refine bodyPost_ret (v := V8.val ⟨a.x0, a.x1, a.x2, a.x3, a.x4, a.x5, a.x6, mx a.x7 n⟩) (by simp [results, Try.results12, go_sem]) rfl ⟨rfl, ?_⟩
  (repeat' (first | with_reducible exact Below.refl _ _ | with_reducible assumption | with_reducible refine below_ext ?_ ?_ | with_reducible refine Below.alloc ?_ ?_ _ | with_reducible refine Below.drew ?_ | with_reducible refine Below.setCell ?_ ?_ _ | go_size))
set_option maxHeartbeats 1000000 in
theorem with_none (a : V8) (n r : Int) (h : ¬ (0 ≤ r ∧ r < 8)) (w : World) : Calls Try.prog 12 #[a.val, st n r] w fun e w' => e = .returned a.val ∧ Below w.heap.size w w' := by
  have hk := known_no n r h
  clear h
  go_enter Try.func12, Try.ntmps12
  go_wp2_with (go_at_call 19; with_reducible refine (calls_ext0 (hk _)).mono ?_; rintro e w' ⟨rfl, nq, rfl⟩)
  refine bodyPost_ret (v := V8.val a) (by simp [results, Try.results12, go_sem]) rfl ⟨rfl, ?_⟩
  (repeat' (first | with_reducible exact Below.refl _ _ | with_reducible assumption | with_reducible refine below_ext ?_ ?_ | with_reducible refine Below.alloc ?_ ?_ _ | with_reducible refine Below.drew ?_ | with_reducible refine Below.setCell ?_ ?_ _ | go_size))
theorem with_any (a : V8) (n r : Int) (w : World) : Calls Try.prog 12 #[a.val, st n r] w fun e w' => e = .returned (a.with n r).val ∧ Below w.heap.size w w' := by
  by_cases h : 0 ≤ r ∧ r < 8
  · rcases known8 h.1 h.2 with rfl | rfl | rfl | rfl | rfl | rfl | rfl | rfl
    · exact with_0 a n w
    · exact with_1 a n w
    · exact with_2 a n w
    · exact with_3 a n w
    · exact with_4 a n w
    · exact with_5 a n w
    · exact with_6 a n w
    · exact with_7 a n w
  · rw [with_no a n r h]; exact with_none a n r h w
end Go.Proofs.Ytplnpgmchibnlaa
