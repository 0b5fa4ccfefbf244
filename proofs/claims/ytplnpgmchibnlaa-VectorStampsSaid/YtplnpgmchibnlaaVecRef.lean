/- VECTORS: the reference's Has, With, Join, Covers. -/
import Derived.Test.YtplnpgmchibnlaaVecMost
namespace Go.Proofs.Ytplnpgmchibnlaa
open Go.RowKit Go.Joins
set_option linter.unusedSimpArgs false

theorem has_at (a : V8) (n : Int) (k : Nat) (h : k < 8) : a.has n k = decide (n ≤ a.nth k) := by
  have : knownB (k : Int) = true := (known_iff _).2 ⟨by omega, by omega⟩
  simp only [V8.has, this, Bool.true_and]
  exact decide_eq_decide.2 Iff.rfl
theorem has_out (a : V8) (n r : Int) (h : ∀ j : Nat, j < 8 → (j : Int) ≠ r) : a.has n r = false := by
  refine has_no a n r (fun ⟨h0, h8⟩ => ?_)
  obtain ⟨m, rfl⟩ := Int.eq_ofNat_of_zero_le h0
  exact h m (by omega) rfl

set_option maxHeartbeats 1000000 in
theorem refHas_any (a : V8) (n r : Int) (w : World) : Calls Try.prog 11 #[a.val, st n r] w fun e w' => e = .returned (.bool (a.has n r)) ∧ Below w.heap.size w w' := by
  have hc : ∀ (o : Obj) (i : Nat), i < 8 → ((w.alloc (.cells a.cells 23)).alloc o).cell? ⟨w.heap.size, i, none⟩ = some (.int .i64 (a.nth i)) := fun o i h => by
    rw [World.cell?_alloc_lt _ _ _ (by simp)]
    exact cell_vec w a 23 i h
  unfold V8.cells at hc
  have HC := Lib.hid hc
  clear hc
  go_enter Try.func11, Try.ntmps11
  go_wp2
  go_loop [5] (fun i => ∃ k : Nat, k ≤ 8 ∧ i = .int .i64 (k : Int) ∧ ∀ j : Nat, j < k → (j : Int) ≠ r) (fun i => 8 - (intOf i).toNat)
  case atStart => exact ⟨0, by omega, rfl, fun j h => by omega⟩
  case round =>
    obtain ⟨k, hk, rfl, hne⟩ := hrel
    have HN := Lib.hid hne
    clear hne
    by_cases h8 : k < 8
    · have hck := HC.out (.cells #[.int .i64 n, .int .i64 r] 27) k h8
      by_cases hr : (k : Int) = r
      · subst hr
        go_wp2
        go_quiet (fail)
        go_wp2
        go_ret
        exact ⟨congrArg (fun b => Ending.returned (.bool b)) (has_at a n k h8).symm, by (repeat' (first | with_reducible exact Below.refl _ _ | with_reducible assumption | with_reducible refine below_ext ?_ ?_ | with_reducible refine Below.alloc ?_ ?_ _ | with_reducible refine Below.drew ?_ | with_reducible refine below_drewN ?_ _ | with_reducible refine Below.setCell ?_ ?_ _ | go_size))⟩
      · have hb : ((k : Int) == r) = false := by simp; omega
        have HR := Lib.hid hr
        clear hr
        go_wp2
        go_round
        case rel => exact ⟨k + 1, by omega, by go_num, fun j hj => by
          rcases Nat.lt_or_ge j k with h | h
          · exact HN.out j h
          · obtain rfl : j = k := by omega
            exact HR.out⟩
        case measure => simp [intOf]; omega
    · have h8' : k = 8 := by omega
      subst h8'
      go_wp2
      go_ret
      exact ⟨congrArg (fun b => Ending.returned (.bool b)) (has_out a n r HN.out).symm, by (repeat' (first | with_reducible exact Below.refl _ _ | with_reducible assumption | with_reducible refine below_ext ?_ ?_ | with_reducible refine Below.alloc ?_ ?_ _ | with_reducible refine Below.drew ?_ | with_reducible refine below_drewN ?_ _ | with_reducible refine Below.setCell ?_ ?_ _ | go_size))⟩

theorem cov_at (a b : V8) : a.cov b = true ↔ ∀ j : Nat, j < 8 → b.nth j ≤ a.nth j := by
  rw [cov_iff]
  constructor
  · intro h j hj
    rcases nat8 hj with rfl | rfl | rfl | rfl | rfl | rfl | rfl | rfl <;> simp [V8.nth, V8.at] <;> omega
  · intro h
    have h0 := h 0 (by omega)
    have h1 := h 1 (by omega)
    have h2 := h 2 (by omega)
    have h3 := h 3 (by omega)
    have h4 := h 4 (by omega)
    have h5 := h 5 (by omega)
    have h6 := h 6 (by omega)
    have h7 := h 7 (by omega)
    simp [V8.nth, V8.at] at h0 h1 h2 h3 h4 h5 h6 h7
    exact ⟨h0, h1, h2, h3, h4, h5, h6, h7⟩

set_option maxHeartbeats 1000000 in
theorem refCovers_any (a b : V8) (w : World) : Calls Try.prog 17 #[a.val, b.val] w fun e w' => e = .returned (.bool (a.cov b)) ∧ Below w.heap.size w w' := by
  have hc : ∀ (o : Obj) (i : Nat), i < 8 → ((w.alloc (.cells a.cells 23)).alloc o).cell? ⟨w.heap.size, i, none⟩ = some (.int .i64 (a.nth i)) := fun o i h => by
    rw [World.cell?_alloc_lt _ _ _ (by simp)]
    exact cell_vec w a 23 i h
  have hd : ∀ (o : Obj) (i : Nat), i < 8 → ((w.alloc o).alloc (.cells b.cells 23)).cell? ⟨w.heap.size + 1, i, none⟩ = some (.int .i64 (b.nth i)) := fun o i h => by
    have := cell_vec (w.alloc o) b 23 i h
    simpa using this
  unfold V8.cells at hc hd
  have HC := Lib.hid hc
  have HD := Lib.hid hd
  clear hc hd
  go_enter Try.func17, Try.ntmps17
  go_wp2
  go_loopw [5] (fun i wr => ∃ k : Nat, k ≤ 8 ∧ i = .int .i64 (k : Int) ∧ (∀ j : Nat, j < k → b.nth j ≤ a.nth j) ∧ ∃ m, wr = ((w.alloc (.cells #[.int .i64 a.x0, .int .i64 a.x1, .int .i64 a.x2, .int .i64 a.x3, .int .i64 a.x4, .int .i64 a.x5, .int .i64 a.x6, .int .i64 a.x7] 23)).alloc (.cells #[.int .i64 b.x0, .int .i64 b.x1, .int .i64 b.x2, .int .i64 b.x3, .int .i64 b.x4, .int .i64 b.x5, .int .i64 b.x6, .int .i64 b.x7] 23)).drewN m) (fun i _ => 8 - (intOf i).toNat)
  case atStart => exact ⟨0, by omega, rfl, fun j h => by omega, 0, rfl⟩
  case round =>
    obtain ⟨k, hk, rfl, hne, m, rfl⟩ := hrel
    have HN := Lib.hid hne
    clear hne
    by_cases h8 : k < 8
    · have hck := HC.out (.cells #[.int .i64 b.x0, .int .i64 b.x1, .int .i64 b.x2, .int .i64 b.x3, .int .i64 b.x4, .int .i64 b.x5, .int .i64 b.x6, .int .i64 b.x7] 23) k h8
      have hdk := HD.out (.cells #[.int .i64 a.x0, .int .i64 a.x1, .int .i64 a.x2, .int .i64 a.x3, .int .i64 a.x4, .int .i64 a.x5, .int .i64 a.x6, .int .i64 a.x7] 23) k h8
      by_cases hr : a.nth k < b.nth k
      · have hf : a.cov b = false := by
          rw [Bool.eq_false_iff]
          intro h
          have := (cov_at a b).1 h k h8
          omega
        have HF := Lib.hid hf
        clear hf
        go_wp2
        go_quiet (fail)
        go_wp2
        go_ret
        exact ⟨congrArg (fun b => Ending.returned (.bool b)) HF.out.symm, by (repeat' (first | with_reducible exact Below.refl _ _ | with_reducible assumption | with_reducible refine below_ext ?_ ?_ | with_reducible refine Below.alloc ?_ ?_ _ | with_reducible refine Below.drew ?_ | with_reducible refine below_drewN ?_ _ | with_reducible refine Below.setCell ?_ ?_ _ | go_size))⟩
      · go_wp2
        go_quiet (fail)
        go_wp2
        go_roundw
        case rel => exact ⟨k + 1, by omega, by go_num, fun j hj => by
          rcases Nat.lt_or_ge j k with h | h
          · exact HN.out j h
          · obtain rfl : j = k := by omega
            omega, ⟨_, rfl⟩⟩
        case measure => simp [intOf]; omega
    · have h8' : k = 8 := by omega
      subst h8'
      go_wp2
      go_ret
      exact ⟨congrArg (fun b => Ending.returned (.bool b)) ((cov_at a b).2 HN.out).symm, by (repeat' (first | with_reducible exact Below.refl _ _ | with_reducible assumption | with_reducible refine below_ext ?_ ?_ | with_reducible refine Below.alloc ?_ ?_ _ | with_reducible refine Below.drew ?_ | with_reducible refine below_drewN ?_ _ | with_reducible refine Below.setCell ?_ ?_ _ | go_size))⟩
end Go.Proofs.Ytplnpgmchibnlaa
