/- STAMPS: what the functions of package stamp and of its reference compute, and what they do to memory. -/
import Derived.Test.YtiamohfpohjdpaaDoorBase
namespace Go.Proofs.YtiamohfpohjdpaaDoor
open Go.RowKit
set_option linter.unusedSimpArgs false
set_option linter.unusedVariables false

abbrev st (n r : Int) : Value := .agg #[.int .i64 n, .int .i64 r]
def cmpI (x y : Int) : Int := if x < y then -1 else if y < x then 1 else 0
def rightB (n r : Int) : Bool := decide (1 ≤ n ∧ n ≤ 1048576 ∧ 0 ≤ r ∧ r < 8)
def cmpS (n r m q : Int) : Int := if cmpI n m = 0 then cmpI r q else cmpI n m
/-- what Next answers -/
def nextN (seen r : Int) : Int := if r < 0 ∨ 8 ≤ r ∨ seen < 0 then 0 else if 1048576 ≤ seen then 0 else seen + 1
def nextR (seen r : Int) : Int := if r < 0 ∨ 8 ≤ r ∨ seen < 0 then 0 else if 1048576 ≤ seen then 0 else r
def nextE (seen r : Int) : Int := if r < 0 ∨ 8 ≤ r ∨ seen < 0 then 1 else if 1048576 ≤ seen then 11 else 0

set_option maxRecDepth 100000 in
theorem open_st {w : World} {r : Reach} {base : Nat} {v : Value} (h : Value.okWide Tryd.prog w r base 31 v) : ∃ n r, v = st n r ∧ IntKind.i64.has n ∧ IntKind.i64.has r := by
  obtain ⟨cs, rfl, hs, hr⟩ := agg_struct Tryd.underlying31 h
  have hcs : cs.size = 2 := hs.trans (by kernel_rfl)
  obtain ⟨c0, c1, rfl⟩ := list2 hcs
  have ht : Tryd.prog.cellTypes Tryd.prog.depth 31 = some [3, 3] := by kernel_rfl
  obtain ⟨u0, e0, k0⟩ := row_cell ht hr 0 c0 rfl
  obtain rfl : 3 = u0 := by simpa using e0
  obtain ⟨n, rfl, h0⟩ := cell_int Tryd.underlying3 k0
  obtain ⟨u1, e1, k1⟩ := row_cell ht hr 1 c1 rfl
  obtain rfl : 3 = u1 := by simpa using e1
  obtain ⟨m, rfl, h1⟩ := cell_int Tryd.underlying3 k1
  exact ⟨n, m, rfl, h0, h1⟩

theorem isNaN_any (x : Int) (w : World) : Calls Tryd.prog 79 #[.int .i64 x] w fun e w' => e = .returned (.bool false) ∧ Below w.heap.size w w' := by
  go_enter Tryd.func79, Tryd.ntmps79
  go_wp2
  go_ret
  exact ⟨by simp, by (repeat' (first | with_reducible exact Below.refl _ _ | with_reducible assumption | with_reducible refine below_ext ?_ ?_ | with_reducible refine Below.alloc ?_ ?_ _ | with_reducible refine Below.drew ?_ | with_reducible refine below_drewN ?_ _ | with_reducible refine Below.setCell ?_ ?_ _ | go_size))⟩
theorem compareI_any (x y : Int) (w : World) : Calls Tryd.prog 68 #[.int .i64 x, .int .i64 y] w fun e w' => e = .returned (.int .i64 (cmpI x y)) ∧ Below w.heap.size w w' := by
  have t0 := Tr.nil w
  by_cases h : x < y
  · rw [show cmpI x y = -1 from if_pos h]
    go_enter Tryd.func68, Tryd.ntmps68
    go_wp2_with (go_at_call 79; with_reducible refine (isNaN_any _ _).mono ?_; rintro e w1 ⟨rfl, hb⟩; have t1 := Tr.later (W0 := w) (by repeat (first | with_reducible assumption | with_reducible apply Tr.alloc | with_reducible apply Tr.drew | with_reducible apply Tr.drewN | with_reducible apply Tr.ext | with_reducible apply Tr.other)) hb; have r1 := t1.rules; simp only [Rules, World.size_alloc, World.size_drew, World.size_setCell] at r1; clear hb)
    go_ret
    exact ⟨rfl, Tr.below (W0 := w) (by repeat (first | with_reducible assumption | with_reducible apply Tr.alloc | with_reducible apply Tr.drew | with_reducible apply Tr.drewN | with_reducible apply Tr.ext | with_reducible apply Tr.other))⟩
  · by_cases k : y < x
    · rw [show cmpI x y = 1 from by rw [cmpI, if_neg h, if_pos k]]
      go_enter Tryd.func68, Tryd.ntmps68
      go_wp2_with (go_at_call 79; with_reducible refine (isNaN_any _ _).mono ?_; rintro e w1 ⟨rfl, hb⟩; have t1 := Tr.later (W0 := w) (by repeat (first | with_reducible assumption | with_reducible apply Tr.alloc | with_reducible apply Tr.drew | with_reducible apply Tr.drewN | with_reducible apply Tr.ext | with_reducible apply Tr.other)) hb; have r1 := t1.rules; simp only [Rules, World.size_alloc, World.size_drew, World.size_setCell] at r1; clear hb)
      go_ret
      exact ⟨rfl, Tr.below (W0 := w) (by repeat (first | with_reducible assumption | with_reducible apply Tr.alloc | with_reducible apply Tr.drew | with_reducible apply Tr.drewN | with_reducible apply Tr.ext | with_reducible apply Tr.other))⟩
    · rw [show cmpI x y = 0 from by rw [cmpI, if_neg h, if_neg k]]
      go_enter Tryd.func68, Tryd.ntmps68
      go_wp2_with (go_at_call 79; with_reducible refine (isNaN_any _ _).mono ?_; rintro e w1 ⟨rfl, hb⟩; have t1 := Tr.later (W0 := w) (by repeat (first | with_reducible assumption | with_reducible apply Tr.alloc | with_reducible apply Tr.drew | with_reducible apply Tr.drewN | with_reducible apply Tr.ext | with_reducible apply Tr.other)) hb; have r1 := t1.rules; simp only [Rules, World.size_alloc, World.size_drew, World.size_setCell] at r1; clear hb)
      go_ret
      exact ⟨rfl, Tr.below (W0 := w) (by repeat (first | with_reducible assumption | with_reducible apply Tr.alloc | with_reducible apply Tr.drew | with_reducible apply Tr.drewN | with_reducible apply Tr.ext | with_reducible apply Tr.other))⟩
theorem compare_any (n r m q : Int) (w : World) : Calls Tryd.prog 49 #[st n r, st m q] w fun e w' => e = .returned (.int .i64 (cmpS n r m q)) ∧ Below w.heap.size w w' := by
  have t0 := Tr.nil w
  by_cases h : cmpI n m = 0
  · rw [show cmpS n r m q = cmpI r q from if_pos h]
    go_enter Tryd.func49, Tryd.ntmps49
    go_wp2_with (go_at_call 68; with_reducible refine (compareI_any _ _ _).mono ?_; rintro e w1 ⟨rfl, hb⟩; have t1 := Tr.later (W0 := w) (by repeat (first | with_reducible assumption | with_reducible apply Tr.alloc | with_reducible apply Tr.drew | with_reducible apply Tr.drewN | with_reducible apply Tr.ext | with_reducible apply Tr.other)) hb; have r1 := t1.rules; simp only [Rules, World.size_alloc, World.size_drew, World.size_setCell] at r1; clear hb)
    go_ret
    exact ⟨rfl, Tr.below (W0 := w) (by repeat (first | with_reducible assumption | with_reducible apply Tr.alloc | with_reducible apply Tr.drew | with_reducible apply Tr.drewN | with_reducible apply Tr.ext | with_reducible apply Tr.other))⟩
  · rw [show cmpS n r m q = cmpI n m from if_neg h]
    have hb : (cmpI n m == 0) = false := by simpa using h
    clear h
    go_enter Tryd.func49, Tryd.ntmps49
    go_wp2_with (go_at_call 68; with_reducible refine (compareI_any _ _ _).mono ?_; rintro e w1 ⟨rfl, hb⟩; have t1 := Tr.later (W0 := w) (by repeat (first | with_reducible assumption | with_reducible apply Tr.alloc | with_reducible apply Tr.drew | with_reducible apply Tr.drewN | with_reducible apply Tr.ext | with_reducible apply Tr.other)) hb; have r1 := t1.rules; simp only [Rules, World.size_alloc, World.size_drew, World.size_setCell] at r1; clear hb)
    go_ret
    exact ⟨rfl, Tr.below (W0 := w) (by repeat (first | with_reducible assumption | with_reducible apply Tr.alloc | with_reducible apply Tr.drew | with_reducible apply Tr.drewN | with_reducible apply Tr.ext | with_reducible apply Tr.other))⟩
theorem right_yes {n r : Int} (h : 1 ≤ n ∧ n ≤ 1048576 ∧ 0 ≤ r ∧ r < 8) : rightB n r = true := decide_eq_true h
theorem right_no {n r : Int} (h : ¬ (1 ≤ n ∧ n ≤ 1048576 ∧ 0 ≤ r ∧ r < 8)) : rightB n r = false := decide_eq_false h
theorem right0_any (n r : Int) (w : World) : Calls Tryd.prog 39 #[st n r] w fun e w' => e = .returned (.bool (rightB n r)) ∧ Below w.heap.size w w' := by
  by_cases h1 : 1 ≤ n
  · by_cases h2 : n ≤ 1048576
    · by_cases h3 : 0 ≤ r
      · by_cases h4 : r < 8
        · rw [right_yes ⟨h1, h2, h3, h4⟩]
          go_enter Tryd.func39, Tryd.ntmps39
          go_wp2
          go_ret
          exact ⟨by simp [h4], by (repeat' (first | with_reducible exact Below.refl _ _ | with_reducible assumption | with_reducible refine below_ext ?_ ?_ | with_reducible refine Below.alloc ?_ ?_ _ | with_reducible refine Below.drew ?_ | with_reducible refine below_drewN ?_ _ | with_reducible refine Below.setCell ?_ ?_ _ | go_size))⟩
        · rw [right_no (fun h => h4 h.2.2.2)]
          have b4 : decide (r < 8) = false := by simpa using h4
          clear h4
          go_enter Tryd.func39, Tryd.ntmps39
          go_wp2
          go_ret
          exact ⟨by simp [b4], by (repeat' (first | with_reducible exact Below.refl _ _ | with_reducible assumption | with_reducible refine below_ext ?_ ?_ | with_reducible refine Below.alloc ?_ ?_ _ | with_reducible refine Below.drew ?_ | with_reducible refine below_drewN ?_ _ | with_reducible refine Below.setCell ?_ ?_ _ | go_size))⟩
      · rw [right_no (fun h => h3 h.2.2.1)]
        have b3 : decide (0 ≤ r) = false := by simpa using h3
        clear h3
        go_enter Tryd.func39, Tryd.ntmps39
        go_wp2
        go_ret
        exact ⟨rfl, by (repeat' (first | with_reducible exact Below.refl _ _ | with_reducible assumption | with_reducible refine below_ext ?_ ?_ | with_reducible refine Below.alloc ?_ ?_ _ | with_reducible refine Below.drew ?_ | with_reducible refine below_drewN ?_ _ | with_reducible refine Below.setCell ?_ ?_ _ | go_size))⟩
    · rw [right_no (fun h => h2 h.2.1)]
      have b2 : decide (n ≤ 1048576) = false := by simpa using h2
      clear h2
      go_enter Tryd.func39, Tryd.ntmps39
      go_wp2
      go_ret
      exact ⟨rfl, by (repeat' (first | with_reducible exact Below.refl _ _ | with_reducible assumption | with_reducible refine below_ext ?_ ?_ | with_reducible refine Below.alloc ?_ ?_ _ | with_reducible refine Below.drew ?_ | with_reducible refine below_drewN ?_ _ | with_reducible refine Below.setCell ?_ ?_ _ | go_size))⟩
  · rw [right_no (fun h => h1 h.1)]
    have b1 : decide (1 ≤ n) = false := by simpa using h1
    clear h1
    go_enter Tryd.func39, Tryd.ntmps39
    go_wp2
    go_ret
    exact ⟨rfl, by (repeat' (first | with_reducible exact Below.refl _ _ | with_reducible assumption | with_reducible refine below_ext ?_ ?_ | with_reducible refine Below.alloc ?_ ?_ _ | with_reducible refine Below.drew ?_ | with_reducible refine below_drewN ?_ _ | with_reducible refine Below.setCell ?_ ?_ _ | go_size))⟩
theorem right1_any (n r : Int) (w : World) : Calls Tryd.prog 54 #[st n r] w fun e w' => e = .returned (.bool (rightB n r)) ∧ Below w.heap.size w w' := by
  by_cases h1 : 1 ≤ n
  · by_cases h2 : n ≤ 1048576
    · by_cases h3 : 0 ≤ r
      · by_cases h4 : r < 8
        · rw [right_yes ⟨h1, h2, h3, h4⟩]
          go_enter Tryd.func54, Tryd.ntmps54
          go_wp2
          go_ret
          exact ⟨by simp [h4], by (repeat' (first | with_reducible exact Below.refl _ _ | with_reducible assumption | with_reducible refine below_ext ?_ ?_ | with_reducible refine Below.alloc ?_ ?_ _ | with_reducible refine Below.drew ?_ | with_reducible refine below_drewN ?_ _ | with_reducible refine Below.setCell ?_ ?_ _ | go_size))⟩
        · rw [right_no (fun h => h4 h.2.2.2)]
          have b4 : decide (r < 8) = false := by simpa using h4
          clear h4
          go_enter Tryd.func54, Tryd.ntmps54
          go_wp2
          go_ret
          exact ⟨by simp [b4], by (repeat' (first | with_reducible exact Below.refl _ _ | with_reducible assumption | with_reducible refine below_ext ?_ ?_ | with_reducible refine Below.alloc ?_ ?_ _ | with_reducible refine Below.drew ?_ | with_reducible refine below_drewN ?_ _ | with_reducible refine Below.setCell ?_ ?_ _ | go_size))⟩
      · rw [right_no (fun h => h3 h.2.2.1)]
        have b3 : decide (0 ≤ r) = false := by simpa using h3
        clear h3
        go_enter Tryd.func54, Tryd.ntmps54
        go_wp2
        go_ret
        exact ⟨rfl, by (repeat' (first | with_reducible exact Below.refl _ _ | with_reducible assumption | with_reducible refine below_ext ?_ ?_ | with_reducible refine Below.alloc ?_ ?_ _ | with_reducible refine Below.drew ?_ | with_reducible refine below_drewN ?_ _ | with_reducible refine Below.setCell ?_ ?_ _ | go_size))⟩
    · rw [right_no (fun h => h2 h.2.1)]
      have b2 : decide (n ≤ 1048576) = false := by simpa using h2
      clear h2
      go_enter Tryd.func54, Tryd.ntmps54
      go_wp2
      go_ret
      exact ⟨rfl, by (repeat' (first | with_reducible exact Below.refl _ _ | with_reducible assumption | with_reducible refine below_ext ?_ ?_ | with_reducible refine Below.alloc ?_ ?_ _ | with_reducible refine Below.drew ?_ | with_reducible refine below_drewN ?_ _ | with_reducible refine Below.setCell ?_ ?_ _ | go_size))⟩
  · rw [right_no (fun h => h1 h.1)]
    have b1 : decide (1 ≤ n) = false := by simpa using h1
    clear h1
    go_enter Tryd.func54, Tryd.ntmps54
    go_wp2
    go_ret
    exact ⟨rfl, by (repeat' (first | with_reducible exact Below.refl _ _ | with_reducible assumption | with_reducible refine below_ext ?_ ?_ | with_reducible refine Below.alloc ?_ ?_ _ | with_reducible refine Below.drew ?_ | with_reducible refine below_drewN ?_ _ | with_reducible refine Below.setCell ?_ ?_ _ | go_size))⟩
end Go.Proofs.YtiamohfpohjdpaaDoor
