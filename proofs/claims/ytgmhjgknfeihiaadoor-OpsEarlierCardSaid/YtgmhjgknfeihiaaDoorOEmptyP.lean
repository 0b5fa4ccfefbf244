/- WHAT IS NOT USED IS EMPTY: the plain side: an operation that may be, turned in one field, may not be. -/
import Derived.Test.YtgmhjgknfeihiaaDoorOLaw
namespace Go.Proofs.YtgmhjgknfeihiaaDoor
open Go.RowKit Go.Joins
set_option linter.unusedSimpArgs false
set_option linter.unusedVariables false
def V8.put (v : V8) (r n : Int) : V8 := ⟨if r = 0 then n else v.x0, if r = 1 then n else v.x1, if r = 2 then n else v.x2, if r = 3 then n else v.x3, if r = 4 then n else v.x4, if r = 5 then n else v.x5, if r = 6 then n else v.x6, if r = 7 then n else v.x7⟩
def OpG.ea (o : OpG) : OpG := { o with n := 0, r := 0 }
def OpG.eb (o : OpG) : OpG := { o with d := o.d.put o.r o.n }
def OpG.ec1 (o : OpG) : OpG := { o with ch := 97 }
def OpG.ec2 (o : OpG) (s : ByteArray) : OpG := { o with name := s }
def OpG.ed1 (o : OpG) : OpG := { o with key := ⟨#[97]⟩ }
def OpG.ed2 (o : OpG) : OpG := { o with ta := true }
theorem right_iff {n r : Int} : rightB n r = true ↔ 1 ≤ n ∧ n ≤ 1048576 ∧ 0 ≤ r ∧ r < 8 := by
  unfold rightB; exact decide_eq_true_iff
/-- what an operation that may be is, by its kind -/
theorem rightP_cases {o : OpG} (h : o.rightP = true) : o.pre = true ∧ ((o.kd = 1 ∧ o.ok1 = true ∧ o.x1 = o) ∨ (o.kd = 2 ∧ o.ok2 = true ∧ o.x2 = o) ∨ (o.kd = 3 ∧ o.ok3 = true ∧ o.x3 = o) ∨ (o.kd = 4 ∧ o.ok4 = true ∧ o.x4 = o) ∨ (o.kd = 5 ∧ o.ok5 = true ∧ o.x5 = o)) := by
  unfold OpG.rightP at h
  rw [Bool.and_eq_true] at h
  refine ⟨h.1, ?_⟩
  have h2 := h.2
  by_cases k1 : o.kd = 1
  · rw [if_pos k1, Bool.and_eq_true, OpG.beq_iff] at h2
    exact .inl ⟨k1, h2⟩
  rw [if_neg k1] at h2
  by_cases k2 : o.kd = 2
  · rw [if_pos k2, Bool.and_eq_true, OpG.beq_iff] at h2
    exact .inr (.inl ⟨k2, h2⟩)
  rw [if_neg k2] at h2
  by_cases k3 : o.kd = 3
  · rw [if_pos k3, Bool.and_eq_true, OpG.beq_iff] at h2
    exact .inr (.inr (.inl ⟨k3, h2⟩))
  rw [if_neg k3] at h2
  by_cases k4 : o.kd = 4
  · rw [if_pos k4, Bool.and_eq_true, OpG.beq_iff] at h2
    exact .inr (.inr (.inr (.inl ⟨k4, h2⟩)))
  rw [if_neg k4] at h2
  by_cases k5 : o.kd = 5
  · rw [if_pos k5, Bool.and_eq_true, OpG.beq_iff] at h2
    exact .inr (.inr (.inr (.inr ⟨k5, h2⟩)))
  rw [if_neg k5] at h2
  cases h2
theorem not_rightP {o : OpG} (h : o.rightP = true → False) : o.rightP = false := by
  cases hb : o.rightP with
  | false => rfl
  | true => exact (h hb).elim
theorem ea_not (o : OpG) : o.ea.rightP = false := not_rightP fun h => by
  have h1 := (pre_iff _).1 (rightP_cases h).1
  have h2 := right_iff.1 h1.1
  have : o.ea.n = 0 := rfl
  omega
theorem eb_not {o : OpG} (ho : o.rightP = true) : o.eb.rightP = false := not_rightP fun h => by
  have h1 := (pre_iff _).1 (rightP_cases h).1
  have h2 : 1 ≤ o.n ∧ o.n ≤ 1048576 ∧ 0 ≤ o.r ∧ o.r < 8 := right_iff.1 h1.1
  obtain ⟨-, -, l0, l1, l2, l3, l4, l5, l6, l7⟩ := h1
  have l0 : (if o.r = 0 then o.n else o.d.x0) < o.n := l0
  have l1 : (if o.r = 1 then o.n else o.d.x1) < o.n := l1
  have l2 : (if o.r = 2 then o.n else o.d.x2) < o.n := l2
  have l3 : (if o.r = 3 then o.n else o.d.x3) < o.n := l3
  have l4 : (if o.r = 4 then o.n else o.d.x4) < o.n := l4
  have l5 : (if o.r = 5 then o.n else o.d.x5) < o.n := l5
  have l6 : (if o.r = 6 then o.n else o.d.x6) < o.n := l6
  have l7 : (if o.r = 7 then o.n else o.d.x7) < o.n := l7
  have hr : o.r = 0 ∨ o.r = 1 ∨ o.r = 2 ∨ o.r = 3 ∨ o.r = 4 ∨ o.r = 5 ∨ o.r = 6 ∨ o.r = 7 := by omega
  rcases hr with hr | hr | hr | hr | hr | hr | hr | hr
  · rw [if_pos hr] at l0; omega
  · rw [if_pos hr] at l1; omega
  · rw [if_pos hr] at l2; omega
  · rw [if_pos hr] at l3; omega
  · rw [if_pos hr] at l4; omega
  · rw [if_pos hr] at l5; omega
  · rw [if_pos hr] at l6; omega
  · rw [if_pos hr] at l7; omega
theorem ec1_not {o : OpG} (hk : o.kd = 3 ∨ o.kd = 4 ∨ o.kd = 5) : o.ec1.rightP = false := not_rightP fun h => by
  have e : o.ec1.kd = o.kd := rfl
  have c : o.ec1.ch = 97 := rfl
  rcases (rightP_cases h).2 with ⟨k, _, x⟩ | ⟨k, _, x⟩ | ⟨k, _, x⟩ | ⟨k, _, x⟩ | ⟨k, _, x⟩
  · omega
  · omega
  all_goals
    have t : (0 : Int) = 97 := congrArg OpG.ch x
    exact absurd t (by decide)
theorem ec2_not {o : OpG} {s : ByteArray} (hk : o.kd = 1 ∨ o.kd = 2) (hs : 0 < s.size) : (o.ec2 s).rightP = false := not_rightP fun h => by
  have e : (o.ec2 s).kd = o.kd := rfl
  have c : (o.ec2 s).name = s := rfl
  rcases (rightP_cases h).2 with ⟨k, _, x⟩ | ⟨k, _, x⟩ | ⟨k, _, x⟩ | ⟨k, _, x⟩ | ⟨k, _, x⟩
  · have := congrArg OpG.name x
    rw [c] at this
    have h0 : s.size = 0 := by rw [← this]; rfl
    omega
  · have := congrArg OpG.name x
    rw [c] at this
    have h0 : s.size = 0 := by rw [← this]; rfl
    omega
  · omega
  · omega
  · omega
theorem ed1_not {o : OpG} (hk : o.kd = 5) : o.ed1.rightP = false := not_rightP fun h => by
  have e : o.ed1.kd = o.kd := rfl
  have c : o.ed1.key = ⟨#[97]⟩ := rfl
  rcases (rightP_cases h).2 with ⟨k, _, x⟩ | ⟨k, _, x⟩ | ⟨k, _, x⟩ | ⟨k, _, x⟩ | ⟨k, _, x⟩
  · omega
  · omega
  · omega
  · omega
  · have t : (0 : Nat) = 1 := congrArg (fun o => o.key.size) x
    exact absurd t (by decide)
theorem ed2_not {o : OpG} (hk : o.kd ≠ 5) : o.ed2.rightP = false := not_rightP fun h => by
  have e : o.ed2.kd = o.kd := rfl
  have c : o.ed2.ta = true := rfl
  rcases (rightP_cases h).2 with ⟨k, _, x⟩ | ⟨k, _, x⟩ | ⟨k, _, x⟩ | ⟨k, _, x⟩ | ⟨k, _, x⟩
  · have t : false = true := congrArg OpG.ta x; cases t
  · have t : false = true := congrArg OpG.ta x; cases t
  · have t : false = true := congrArg OpG.ta x; cases t
  · have t : false = true := congrArg OpG.ta x; cases t
  · omega
/-! ### the cells of each -/
theorem ea_cells (o : OpG) : splice (OpG.cells o) 0 (#[.int .i64 0, .int .i64 0] : Array Value).toList = OpG.cells o.ea := by
  simp only [splice, OpG.cells, OpG.ea]
  rfl
theorem eb_cells (o : OpG) (h : 0 ≤ o.r ∧ o.r < 8) : (OpG.cells o).setIfInBounds (2 + o.r.toNat) (.int .i64 o.n) = OpG.cells o.eb := by
  have hr : o.r = 0 ∨ o.r = 1 ∨ o.r = 2 ∨ o.r = 3 ∨ o.r = 4 ∨ o.r = 5 ∨ o.r = 6 ∨ o.r = 7 := by omega
  rcases hr with hr | hr | hr | hr | hr | hr | hr | hr
  all_goals
    simp only [OpG.cells, OpG.eb, V8.put, hr]
    simp
theorem ec1_cells (o : OpG) : (OpG.cells o).setIfInBounds 14 (.int .i64 97) = OpG.cells o.ec1 := by
  simp only [OpG.cells, OpG.ec1, List.setIfInBounds_toArray, List.set_cons_zero, List.set_cons_succ]
theorem ec2_cells (o : OpG) (s : ByteArray) : (OpG.cells o).setIfInBounds 18 (.string s) = OpG.cells (o.ec2 s) := by
  simp only [OpG.cells, OpG.ec2, List.setIfInBounds_toArray, List.set_cons_zero, List.set_cons_succ]
theorem ed1_cells (o : OpG) : (OpG.cells o).setIfInBounds 17 (.string ⟨#[97]⟩) = OpG.cells o.ed1 := by
  simp only [OpG.cells, OpG.ed1, List.setIfInBounds_toArray, List.set_cons_zero, List.set_cons_succ]
theorem ed2_cells (o : OpG) : (OpG.cells o).setIfInBounds 25 (.bool true) = OpG.cells o.ed2 := by
  simp only [OpG.cells, OpG.ed2, List.setIfInBounds_toArray, List.set_cons_zero, List.set_cons_succ]
end Go.Proofs.YtgmhjgknfeihiaaDoor
