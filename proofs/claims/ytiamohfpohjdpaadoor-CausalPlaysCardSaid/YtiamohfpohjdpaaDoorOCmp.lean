/- THE COMPARISON THAT ops.Sort HANDS ON: what it answers, and the very world that it leaves. -/
import Derived.Test.YtiamohfpohjdpaaDoorORight
import Derived.Shelf.SlSortCmp.KitK
namespace Go.Proofs.YtiamohfpohjdpaaDoor
open Go.RowKit Go.Joins Go.Sort
set_option linter.unusedSimpArgs false
set_option linter.unusedVariables false
theorem isNaN_x (x : Int) (w : World) : Calls Tryd.prog 79 #[.int .i64 x] w fun e w' => e = .returned (.bool false) ∧ w' = w := by
  go_enter Tryd.func79, Tryd.ntmps79
  go_wp2
  go_ret
  exact ⟨by simp, rfl⟩
theorem compareI_x (x y : Int) (w : World) : Calls Tryd.prog 68 #[.int .i64 x, .int .i64 y] w fun e w' => e = .returned (.int .i64 (cmpI x y)) ∧ w' = w := by
  by_cases h : x < y
  · rw [show cmpI x y = -1 from if_pos h]
    go_enter Tryd.func68, Tryd.ntmps68
    go_wp2_with (go_at_call 79; refine (isNaN_x _ _).mono ?_; rintro e w' ⟨rfl, rfl⟩)
    go_ret
    exact ⟨rfl, rfl⟩
  · by_cases k : y < x
    · rw [show cmpI x y = 1 from by rw [cmpI, if_neg h, if_pos k]]
      go_enter Tryd.func68, Tryd.ntmps68
      go_wp2_with (go_at_call 79; refine (isNaN_x _ _).mono ?_; rintro e w' ⟨rfl, rfl⟩)
      go_ret
      exact ⟨rfl, rfl⟩
    · rw [show cmpI x y = 0 from by rw [cmpI, if_neg h, if_neg k]]
      go_enter Tryd.func68, Tryd.ntmps68
      go_wp2_with (go_at_call 79; refine (isNaN_x _ _).mono ?_; rintro e w' ⟨rfl, rfl⟩)
      go_ret
      exact ⟨rfl, rfl⟩
theorem compare_x (n r m q : Int) (w : World) : Calls Tryd.prog 49 #[st n r, st m q] w fun e w' => e = .returned (.int .i64 (cmpS n r m q)) ∧ w' = (w.alloc (.cells #[.int .i64 n, .int .i64 r] 31)).alloc (.cells #[.int .i64 m, .int .i64 q] 31) := by
  by_cases h : cmpI n m = 0
  · rw [show cmpS n r m q = cmpI r q from if_pos h]
    go_enter Tryd.func49, Tryd.ntmps49
    go_wp2_with (go_at_call 68; refine (compareI_x _ _ _).mono ?_; rintro e w' ⟨rfl, rfl⟩)
    go_ret
    exact ⟨rfl, rfl⟩
  · rw [show cmpS n r m q = cmpI n m from if_neg h]
    have hb : (cmpI n m == 0) = false := by simpa using h
    clear h
    go_enter Tryd.func49, Tryd.ntmps49
    go_wp2_with (go_at_call 68; refine (compareI_x _ _ _).mono ?_; rintro e w' ⟨rfl, rfl⟩)
    go_ret
    exact ⟨rfl, rfl⟩
def cfO (a b : OpG) : Int := cmpS a.n a.r b.n b.r
theorem sortC_x (a b : OpG) (w : World) : Calls Tryd.prog 48 #[a.val, b.val] w fun e w' => e = .returned (.int .i64 (cfO a b)) ∧ ∃ q os', w' = grow (w.drewN q) os' := by
  have HC := Lib.hid (fun w => compare_x a.n a.r b.n b.r w)
  unfold cfO
  generalize cmpS a.n a.r b.n b.r = c at HC ⊢
  go_enter Tryd.func48, Tryd.ntmps48
  go_wp2_with (go_at_call 49; with_reducible refine (HC.out _).mono ?_; rintro e w' ⟨rfl, rfl⟩)
  go_ret
  exact ⟨rfl, 0, _, by rw [alloc_eq_grow, alloc_eq_grow, alloc_eq_grow, alloc_eq_grow, grow_grow, grow_grow, grow_grow]; rfl⟩
end Go.Proofs.YtiamohfpohjdpaaDoor
