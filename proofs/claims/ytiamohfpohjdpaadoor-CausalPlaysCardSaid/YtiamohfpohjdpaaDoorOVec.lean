/- VECTORS: known, Has, With, Most, and the reference's Has. (Written by a program out of the texts of the vector's claims.) -/
import Derived.Test.YtiamohfpohjdpaaDoorStamp
import Derived.BigGuardPart
import Derived.Lib.Hide
import Derived.Laws.IdiomStrings
namespace Go.Proofs.YtiamohfpohjdpaaDoor
open Go.RowKit Go.Joins
set_option linter.unusedSimpArgs false
set_option linter.unusedVariables false
def mx (x y : Int) : Int := if y > x then y else x
theorem run_mx (ts : Array TypeId) (t : TypeId) (x y : Int) (w : World) : (Builtin.max_ ts t #[.int .i64 x, .int .i64 y]).run Tryd.prog w = .ok (.int .i64 (mx x y)) w := by
  simp [Builtin.max_, Builtin.max2, mx]
structure V8 where
  x0 : Int
  x1 : Int
  x2 : Int
  x3 : Int
  x4 : Int
  x5 : Int
  x6 : Int
  x7 : Int
abbrev vec (a0 a1 a2 a3 a4 a5 a6 a7 : Int) : Value := .agg #[.int .i64 a0, .int .i64 a1, .int .i64 a2, .int .i64 a3, .int .i64 a4, .int .i64 a5, .int .i64 a6, .int .i64 a7]
abbrev V8.val (v : V8) : Value := .agg #[.int .i64 v.x0, .int .i64 v.x1, .int .i64 v.x2, .int .i64 v.x3, .int .i64 v.x4, .int .i64 v.x5, .int .i64 v.x6, .int .i64 v.x7]
def V8.join (a b : V8) : V8 := ⟨mx a.x0 b.x0, mx a.x1 b.x1, mx a.x2 b.x2, mx a.x3 b.x3, mx a.x4 b.x4, mx a.x5 b.x5, mx a.x6 b.x6, mx a.x7 b.x7⟩
def V8.list (a : V8) : List Int := [a.x0, a.x1, a.x2, a.x3, a.x4, a.x5, a.x6, a.x7]
def V8.beq (a b : V8) : Bool := a.list == b.list
def V8.cov (a b : V8) : Bool := (a.join b).beq a
def V8.at (a : V8) (r : Int) : Int := if r = 0 then a.x0 else if r = 1 then a.x1 else if r = 2 then a.x2 else if r = 3 then a.x3 else if r = 4 then a.x4 else if r = 5 then a.x5 else if r = 6 then a.x6 else a.x7
def knownB (r : Int) : Bool := decide (0 ≤ r) && decide (r < 8)
def V8.has (a : V8) (n r : Int) : Bool := knownB r && decide (n ≤ a.at r)
def V8.with (a : V8) (n r : Int) : V8 := ⟨if r = 0 then mx a.x0 n else a.x0, if r = 1 then mx a.x1 n else a.x1, if r = 2 then mx a.x2 n else a.x2, if r = 3 then mx a.x3 n else a.x3, if r = 4 then mx a.x4 n else a.x4, if r = 5 then mx a.x5 n else a.x5, if r = 6 then mx a.x6 n else a.x6, if r = 7 then mx a.x7 n else a.x7⟩
def V8.most (a : V8) : Int := mx (mx (mx (mx (mx (mx (mx (a.x0) a.x1) a.x2) a.x3) a.x4) a.x5) a.x6) a.x7
theorem run_guard (xs ys : Array Value) (x y : Operand) (w : World) : (eqGuard .eql 33 x y (.agg xs) (.agg ys)).run Tryd.prog w = .ok () w := by kernel_rfl
theorem run_eqv (a0 a1 a2 a3 a4 a5 a6 a7 b0 b1 b2 b3 b4 b5 b6 b7 : Int) (w : World) : (Op.equalIn 10000 33 (.agg #[.int .i64 a0, .int .i64 a1, .int .i64 a2, .int .i64 a3, .int .i64 a4, .int .i64 a5, .int .i64 a6, .int .i64 a7]) (.agg #[.int .i64 b0, .int .i64 b1, .int .i64 b2, .int .i64 b3, .int .i64 b4, .int .i64 b5, .int .i64 b6, .int .i64 b7])).run Tryd.prog w = .ok (V8.beq ⟨a0, a1, a2, a3, a4, a5, a6, a7⟩ ⟨b0, b1, b2, b3, b4, b5, b6, b7⟩) w := by
  obtain ⟨i0, hi, _, _, _⟩ := info_parts (by kernel_rfl : (Tryd.prog.info? 3).map (fun i => (i.zero, i.size, i.bytes)) = some (some (.int .i64 0), 1, 8))
  exact run_equal_ints (P := Tryd.prog) (t := 33) (e := 3) (n := 8) (i := i0) Tryd.underlying33 hi (by kernel_rfl) (by kernel_rfl) Tryd.underlying3 [a0, a1, a2, a3, a4, a5, a6, a7] [b0, b1, b2, b3, b4, b5, b6, b7] rfl rfl w
theorem idx0 (b0 b1 b2 b3 b4 b5 b6 b7 : Int) (w : World) : (Instr.index 33 (.agg #[.int .i64 b0, .int .i64 b1, .int .i64 b2, .int .i64 b3, .int .i64 b4, .int .i64 b5, .int .i64 b6, .int .i64 b7]) (.int .i64 0)).run Tryd.prog w = .ok (.int .i64 b0) w := by kernel_rfl
theorem idx1 (b0 b1 b2 b3 b4 b5 b6 b7 : Int) (w : World) : (Instr.index 33 (.agg #[.int .i64 b0, .int .i64 b1, .int .i64 b2, .int .i64 b3, .int .i64 b4, .int .i64 b5, .int .i64 b6, .int .i64 b7]) (.int .i64 1)).run Tryd.prog w = .ok (.int .i64 b1) w := by kernel_rfl
theorem idx2 (b0 b1 b2 b3 b4 b5 b6 b7 : Int) (w : World) : (Instr.index 33 (.agg #[.int .i64 b0, .int .i64 b1, .int .i64 b2, .int .i64 b3, .int .i64 b4, .int .i64 b5, .int .i64 b6, .int .i64 b7]) (.int .i64 2)).run Tryd.prog w = .ok (.int .i64 b2) w := by kernel_rfl
theorem idx3 (b0 b1 b2 b3 b4 b5 b6 b7 : Int) (w : World) : (Instr.index 33 (.agg #[.int .i64 b0, .int .i64 b1, .int .i64 b2, .int .i64 b3, .int .i64 b4, .int .i64 b5, .int .i64 b6, .int .i64 b7]) (.int .i64 3)).run Tryd.prog w = .ok (.int .i64 b3) w := by kernel_rfl
theorem idx4 (b0 b1 b2 b3 b4 b5 b6 b7 : Int) (w : World) : (Instr.index 33 (.agg #[.int .i64 b0, .int .i64 b1, .int .i64 b2, .int .i64 b3, .int .i64 b4, .int .i64 b5, .int .i64 b6, .int .i64 b7]) (.int .i64 4)).run Tryd.prog w = .ok (.int .i64 b4) w := by kernel_rfl
theorem idx5 (b0 b1 b2 b3 b4 b5 b6 b7 : Int) (w : World) : (Instr.index 33 (.agg #[.int .i64 b0, .int .i64 b1, .int .i64 b2, .int .i64 b3, .int .i64 b4, .int .i64 b5, .int .i64 b6, .int .i64 b7]) (.int .i64 5)).run Tryd.prog w = .ok (.int .i64 b5) w := by kernel_rfl
theorem idx6 (b0 b1 b2 b3 b4 b5 b6 b7 : Int) (w : World) : (Instr.index 33 (.agg #[.int .i64 b0, .int .i64 b1, .int .i64 b2, .int .i64 b3, .int .i64 b4, .int .i64 b5, .int .i64 b6, .int .i64 b7]) (.int .i64 6)).run Tryd.prog w = .ok (.int .i64 b6) w := by kernel_rfl
theorem idx7 (b0 b1 b2 b3 b4 b5 b6 b7 : Int) (w : World) : (Instr.index 33 (.agg #[.int .i64 b0, .int .i64 b1, .int .i64 b2, .int .i64 b3, .int .i64 b4, .int .i64 b5, .int .i64 b6, .int .i64 b7]) (.int .i64 7)).run Tryd.prog w = .ok (.int .i64 b7) w := by kernel_rfl

set_option maxRecDepth 100000 in
theorem open_vec {w : World} {r : Reach} {base : Nat} {v : Value} (h : Value.okWide Tryd.prog w r base 33 v) : ∃ a : V8, v = a.val := by
  obtain ⟨cs, rfl, hs, hr⟩ := agg_array Tryd.underlying33 h
  have hcs : cs.size = 8 := hs.trans (by kernel_rfl)
  obtain ⟨c0, c1, c2, c3, c4, c5, c6, c7, rfl⟩ := list8 hcs
  have ht : Tryd.prog.cellTypes Tryd.prog.depth 33 = some [3, 3, 3, 3, 3, 3, 3, 3] := by kernel_rfl
  obtain ⟨u0, e0, k0⟩ := row_cell ht hr 0 c0 rfl
  obtain rfl : 3 = u0 := by simpa using e0
  obtain ⟨a0, rfl, _⟩ := cell_int Tryd.underlying3 k0
  obtain ⟨u1, e1, k1⟩ := row_cell ht hr 1 c1 rfl
  obtain rfl : 3 = u1 := by simpa using e1
  obtain ⟨a1, rfl, _⟩ := cell_int Tryd.underlying3 k1
  obtain ⟨u2, e2, k2⟩ := row_cell ht hr 2 c2 rfl
  obtain rfl : 3 = u2 := by simpa using e2
  obtain ⟨a2, rfl, _⟩ := cell_int Tryd.underlying3 k2
  obtain ⟨u3, e3, k3⟩ := row_cell ht hr 3 c3 rfl
  obtain rfl : 3 = u3 := by simpa using e3
  obtain ⟨a3, rfl, _⟩ := cell_int Tryd.underlying3 k3
  obtain ⟨u4, e4, k4⟩ := row_cell ht hr 4 c4 rfl
  obtain rfl : 3 = u4 := by simpa using e4
  obtain ⟨a4, rfl, _⟩ := cell_int Tryd.underlying3 k4
  obtain ⟨u5, e5, k5⟩ := row_cell ht hr 5 c5 rfl
  obtain rfl : 3 = u5 := by simpa using e5
  obtain ⟨a5, rfl, _⟩ := cell_int Tryd.underlying3 k5
  obtain ⟨u6, e6, k6⟩ := row_cell ht hr 6 c6 rfl
  obtain rfl : 3 = u6 := by simpa using e6
  obtain ⟨a6, rfl, _⟩ := cell_int Tryd.underlying3 k6
  obtain ⟨u7, e7, k7⟩ := row_cell ht hr 7 c7 rfl
  obtain rfl : 3 = u7 := by simpa using e7
  obtain ⟨a7, rfl, _⟩ := cell_int Tryd.underlying3 k7
  exact ⟨⟨a0, a1, a2, a3, a4, a5, a6, a7⟩, rfl⟩
theorem mx_eq (x y : Int) : mx x y = x ↔ y ≤ x := by unfold mx; split <;> omega
theorem beq_iff (a b : V8) : a.beq b = true ↔ a = b := by
  obtain ⟨a0, a1, a2, a3, a4, a5, a6, a7⟩ := a
  obtain ⟨b0, b1, b2, b3, b4, b5, b6, b7⟩ := b
  simp [V8.beq, V8.list]
theorem cov_iff (a b : V8) : a.cov b = true ↔ b.x0 ≤ a.x0 ∧ b.x1 ≤ a.x1 ∧ b.x2 ≤ a.x2 ∧ b.x3 ≤ a.x3 ∧ b.x4 ≤ a.x4 ∧ b.x5 ≤ a.x5 ∧ b.x6 ≤ a.x6 ∧ b.x7 ≤ a.x7 := by
  simp [V8.cov, V8.beq, V8.list, V8.join, mx_eq]
theorem cov_refl (a : V8) : a.cov a = true := by rw [cov_iff]; omega
theorem cov_anti (a b : V8) : (a.cov b && b.cov a) = a.beq b := by
  rw [Bool.eq_iff_iff, Bool.and_eq_true, cov_iff, cov_iff, beq_iff]
  constructor
  · intro h
    obtain ⟨a0, a1, a2, a3, a4, a5, a6, a7⟩ := a
    obtain ⟨b0, b1, b2, b3, b4, b5, b6, b7⟩ := b
    simp only [V8.mk.injEq]
    simp only at h
    omega
  · rintro rfl; omega
theorem anti_of {a b : V8} {x y : Bool} (h : a.cov b = x) (k : b.cov a = y) : a.beq b = (x && y) := by rw [← cov_anti, h, k]
theorem cov_trans (a b c : V8) (h : a.cov b = true) (k : b.cov c = true) : a.cov c = true := by
  rw [cov_iff] at *; omega
theorem cov_one : V8.cov ⟨0, 0, 0, 0, 0, 0, 0, 0⟩ ⟨1, 0, 0, 0, 0, 0, 0, 0⟩ = false := by decide
theorem mx_comm (x y : Int) : mx x y = mx y x := by unfold mx; split <;> split <;> omega
theorem mx_assoc (x y z : Int) : mx (mx x y) z = mx x (mx y z) := by unfold mx; repeat (first | split | omega)
theorem mx_self (x : Int) : mx x x = x := by unfold mx; simp
theorem mx_left (x y : Int) : x ≤ mx x y := by unfold mx; split <;> omega
theorem mx_right (x y : Int) : y ≤ mx x y := by unfold mx; split <;> omega
theorem mx_least (x y z : Int) (h : x ≤ z) (k : y ≤ z) : mx x y ≤ z := by unfold mx; split <;> omega
theorem mx_either (x y n : Int) : n ≤ mx x y ↔ n ≤ x ∨ n ≤ y := by unfold mx; split <;> omega
theorem join_comm (a b : V8) : a.join b = b.join a := by simp only [V8.join, V8.mk.injEq]; exact ⟨mx_comm _ _, mx_comm _ _, mx_comm _ _, mx_comm _ _, mx_comm _ _, mx_comm _ _, mx_comm _ _, mx_comm _ _⟩
theorem join_assoc (a b c : V8) : (a.join b).join c = a.join (b.join c) := by simp only [V8.join, V8.mk.injEq]; exact ⟨mx_assoc _ _ _, mx_assoc _ _ _, mx_assoc _ _ _, mx_assoc _ _ _, mx_assoc _ _ _, mx_assoc _ _ _, mx_assoc _ _ _, mx_assoc _ _ _⟩
theorem join_self (a : V8) : a.join a = a := by obtain ⟨a0, a1, a2, a3, a4, a5, a6, a7⟩ := a; simp [V8.join, mx_self]
theorem cov_join_left (a b : V8) : (a.join b).cov a = true := by
  rw [cov_iff]; exact ⟨mx_left _ _, mx_left _ _, mx_left _ _, mx_left _ _, mx_left _ _, mx_left _ _, mx_left _ _, mx_left _ _⟩
theorem cov_join_right (a b : V8) : (a.join b).cov b = true := by
  rw [cov_iff]; exact ⟨mx_right _ _, mx_right _ _, mx_right _ _, mx_right _ _, mx_right _ _, mx_right _ _, mx_right _ _, mx_right _ _⟩
theorem cov_join_least (a b c : V8) (h : c.cov a = true) (k : c.cov b = true) : c.cov (a.join b) = true := by
  rw [cov_iff] at *
  obtain ⟨h0, h1, h2, h3, h4, h5, h6, h7⟩ := h
  obtain ⟨k0, k1, k2, k3, k4, k5, k6, k7⟩ := k
  exact ⟨mx_least _ _ _ h0 k0, mx_least _ _ _ h1 k1, mx_least _ _ _ h2 k2, mx_least _ _ _ h3 k3, mx_least _ _ _ h4 k4, mx_least _ _ _ h5 k5, mx_least _ _ _ h6 k6, mx_least _ _ _ h7 k7⟩
theorem beq_eta (p q : V8) (h : p = q) : V8.beq ⟨p.x0, p.x1, p.x2, p.x3, p.x4, p.x5, p.x6, p.x7⟩ ⟨q.x0, q.x1, q.x2, q.x3, q.x4, q.x5, q.x6, q.x7⟩ = true := by
  subst h; exact (beq_iff _ _).2 rfl
theorem most_ge (a : V8) : a.x0 ≤ a.most ∧ a.x1 ≤ a.most ∧ a.x2 ≤ a.most ∧ a.x3 ≤ a.most ∧ a.x4 ≤ a.most ∧ a.x5 ≤ a.most ∧ a.x6 ≤ a.most ∧ a.x7 ≤ a.most := by
  simp only [V8.most]
  have h := fun x y => mx_left x y
  have k := fun x y => mx_right x y
  refine ⟨?_, ?_, ?_, ?_, ?_, ?_, ?_, ?_⟩ <;> (unfold mx; repeat (first | omega | split))
theorem most_least (a : V8) (n : Int) (h : a.x0 ≤ n ∧ a.x1 ≤ n ∧ a.x2 ≤ n ∧ a.x3 ≤ n ∧ a.x4 ≤ n ∧ a.x5 ≤ n ∧ a.x6 ≤ n ∧ a.x7 ≤ n) : a.most ≤ n := by
  simp only [V8.most]
  obtain ⟨h0, h1, h2, h3, h4, h5, h6, h7⟩ := h
  exact mx_least _ _ _ (mx_least _ _ _ (mx_least _ _ _ (mx_least _ _ _ (mx_least _ _ _ (mx_least _ _ _ (mx_least _ _ _ h0 h1) h2) h3) h4) h5) h6) h7
theorem most_join (a b : V8) : (a.join b).most = mx a.most b.most := by
  apply Int.le_antisymm
  · refine most_least _ _ ?_
    have ha := most_ge a
    have hb := most_ge b
    have m1 := mx_left a.most b.most
    have m2 := mx_right a.most b.most
    exact ⟨mx_least _ _ _ (by omega) (by omega), mx_least _ _ _ (by omega) (by omega), mx_least _ _ _ (by omega) (by omega), mx_least _ _ _ (by omega) (by omega), mx_least _ _ _ (by omega) (by omega), mx_least _ _ _ (by omega) (by omega), mx_least _ _ _ (by omega) (by omega), mx_least _ _ _ (by omega) (by omega)⟩
  · have hj := most_ge (a.join b)
    simp only [V8.join] at hj
    refine mx_least _ _ _ (most_least _ _ ?_) (most_least _ _ ?_)
    · have := mx_left
      refine ⟨Int.le_trans (mx_left _ b.x0) (by simpa only [V8.join] using hj.1), Int.le_trans (mx_left _ b.x1) (by simpa only [V8.join] using hj.2.1), Int.le_trans (mx_left _ b.x2) (by simpa only [V8.join] using hj.2.2.1), Int.le_trans (mx_left _ b.x3) (by simpa only [V8.join] using hj.2.2.2.1), Int.le_trans (mx_left _ b.x4) (by simpa only [V8.join] using hj.2.2.2.2.1), Int.le_trans (mx_left _ b.x5) (by simpa only [V8.join] using hj.2.2.2.2.2.1), Int.le_trans (mx_left _ b.x6) (by simpa only [V8.join] using hj.2.2.2.2.2.2.1), Int.le_trans (mx_left _ b.x7) (by simpa only [V8.join] using hj.2.2.2.2.2.2.2)⟩
    · refine ⟨Int.le_trans (mx_right a.x0 _) (by simpa only [V8.join] using hj.1), Int.le_trans (mx_right a.x1 _) (by simpa only [V8.join] using hj.2.1), Int.le_trans (mx_right a.x2 _) (by simpa only [V8.join] using hj.2.2.1), Int.le_trans (mx_right a.x3 _) (by simpa only [V8.join] using hj.2.2.2.1), Int.le_trans (mx_right a.x4 _) (by simpa only [V8.join] using hj.2.2.2.2.1), Int.le_trans (mx_right a.x5 _) (by simpa only [V8.join] using hj.2.2.2.2.2.1), Int.le_trans (mx_right a.x6 _) (by simpa only [V8.join] using hj.2.2.2.2.2.2.1), Int.le_trans (mx_right a.x7 _) (by simpa only [V8.join] using hj.2.2.2.2.2.2.2)⟩
theorem at_join (a b : V8) (r : Int) : (a.join b).at r = mx (a.at r) (b.at r) := by
  simp only [V8.at, V8.join]
  repeat (first | rfl | split)
theorem has_join (a b : V8) (n r : Int) : (a.join b).has n r = (a.has n r || b.has n r) := by
  simp only [V8.has, at_join, mx_either]
  cases knownB r <;> simp
theorem known_iff (r : Int) : knownB r = true ↔ 0 ≤ r ∧ r < 8 := by simp [knownB]
theorem known8 {r : Int} (h0 : 0 ≤ r) (h8 : r < 8) : r = 0 ∨ r = 1 ∨ r = 2 ∨ r = 3 ∨ r = 4 ∨ r = 5 ∨ r = 6 ∨ r = 7 := by omega
theorem at_with (a : V8) (n s r : Int) (h0 : 0 ≤ r) (h8 : r < 8) : (a.with n s).at r = if s = r then mx (a.at r) n else a.at r := by
  rcases known8 h0 h8 with rfl | rfl | rfl | rfl | rfl | rfl | rfl | rfl <;> simp [V8.at, V8.with]
theorem has_with (a : V8) (n s r : Int) (h0 : 0 ≤ r) (h8 : r < 8) : (a.with n s).has n r = (a.has n r || r == s) := by
  have hk : knownB r = true := (known_iff r).2 ⟨h0, h8⟩
  simp only [V8.has, at_with a n s r h0 h8, hk, Bool.true_and]
  by_cases h : s = r
  · subst h
    have := mx_right (a.at s) n
    simp [this]
  · have h' : (r == s) = false := by simp; omega
    simp [h, h']
theorem with_no (a : V8) (n r : Int) (h : ¬ (0 ≤ r ∧ r < 8)) : a.with n r = a := by
  obtain ⟨a0, a1, a2, a3, a4, a5, a6, a7⟩ := a
  simp only [V8.with, V8.mk.injEq]
  refine ⟨?_, ?_, ?_, ?_, ?_, ?_, ?_, ?_⟩ <;> (rw [if_neg]; omega)
theorem has_no (a : V8) (n r : Int) (h : ¬ (0 ≤ r ∧ r < 8)) : a.has n r = false := by
  have : knownB r = false := by rw [Bool.eq_false_iff]; exact fun k => h ((known_iff r).1 k)
  simp [V8.has, this]
theorem cov_with (a : V8) (n r : Int) : (a.with n r).cov a = true := by
  rw [cov_iff]
  refine ⟨?_, ?_, ?_, ?_, ?_, ?_, ?_, ?_⟩ <;> (simp only [V8.with]; split <;> first | exact mx_left _ _ | exact Int.le_refl _)
theorem has_with_self (a : V8) (n r : Int) : (a.with n r).has n r = knownB r := by
  by_cases h : 0 ≤ r ∧ r < 8
  · rw [has_with a n r r h.1 h.2, (known_iff r).2 h]; simp
  · rw [has_no _ _ _ h]
    exact ((Bool.eq_false_iff).2 (fun k => h ((known_iff r).1 k))).symm
theorem cov_with_least (a c : V8) (n r : Int) (h : c.cov a = true) (k : c.has n r = true) : c.cov (a.with n r) = true := by
  simp only [V8.has, Bool.and_eq_true, decide_eq_true_eq] at k
  obtain ⟨k1, k2⟩ := k
  obtain ⟨h0, h8⟩ := (known_iff r).1 k1
  rw [cov_iff] at *
  rcases known8 h0 h8 with rfl | rfl | rfl | rfl | rfl | rfl | rfl | rfl <;> (simp [V8.at] at k2; simp [V8.with]; simp only [h, and_true, true_and]; exact mx_least _ _ _ (by omega) k2)
theorem with_has (a : V8) (n r : Int) (k : a.has n r = true) : a.with n r = a := by
  obtain ⟨a0, a1, a2, a3, a4, a5, a6, a7⟩ := a
  simp only [V8.has, Bool.and_eq_true, decide_eq_true_eq] at k
  obtain ⟨k1, k2⟩ := k
  obtain ⟨h0, h8⟩ := (known_iff r).1 k1
  rcases known8 h0 h8 with rfl | rfl | rfl | rfl | rfl | rfl | rfl | rfl <;> (simp [V8.at] at k2; simp [V8.with, mx_eq, k2])
theorem known_yes (n r : Int) (h0 : 0 ≤ r) (h8 : r < 8) (w : World) : Calls Tryd.prog 63 #[st n r] w fun e w' => e = .returned (.bool true) ∧ Below w.heap.size w w' := by
  go_enter Tryd.func63, Tryd.ntmps63
  go_wp2
  go_ret
  exact ⟨rfl, by go_grown⟩
theorem known_no (n r : Int) (h : ¬ (0 ≤ r ∧ r < 8)) (w : World) : Calls Tryd.prog 63 #[st n r] w fun e w' => e = .returned (.bool false) ∧ Below w.heap.size w w' := by
  by_cases h0 : 0 ≤ r
  · have h8 : 8 ≤ r := by omega
    go_enter Tryd.func63, Tryd.ntmps63
    go_wp2
    go_ret
    exact ⟨by simp [h8], by go_grown⟩
  · have h0' : r < 0 := by omega
    clear h h0
    go_enter Tryd.func63, Tryd.ntmps63
    go_wp2
    go_ret
    exact ⟨rfl, by go_grown⟩
set_option maxHeartbeats 4000000 in
theorem has_any (a : V8) (n r : Int) (w : World) : Calls Tryd.prog 37 #[a.val, st n r] w fun e w' => e = .returned (.bool (a.has n r)) ∧ Below w.heap.size w w' := by
  have hx := ext_cell
  by_cases h : 0 ≤ r ∧ r < 8
  · obtain ⟨h0, h8⟩ := h
    rcases known8 h0 h8 with rfl | rfl | rfl | rfl | rfl | rfl | rfl | rfl
    all_goals
      clear h0 h8
      go_enter Tryd.func37, Tryd.ntmps37
      go_wp2
      refine region_ext (by kernel_rfl) (by kernel_rfl) ?_
      repeat (go_big_quiet_step ((go_at_call 63; exact calls_ext (known_yes _ _ (by decide) (by decide) _))))
      refine wpQuiet_nil ?_
      rintro _ ⟨nq, rfl⟩
      go_wp2
      go_ret
      exact ⟨by simp [V8.has, V8.at, knownB], below_ext (by go_grown) (by simp; omega)⟩
  · rw [has_no a n r h]
    have hk := known_no n r h
    clear h
    go_enter Tryd.func37, Tryd.ntmps37
    go_wp2
    refine region_ext (by kernel_rfl) (by kernel_rfl) ?_
    repeat (go_big_quiet_step ((go_at_call 63; exact calls_ext (hk _))))
    refine wpQuiet_nil ?_
    rintro _ ⟨nq, rfl⟩
    go_wp2
    go_ret
    exact ⟨rfl, below_ext (by go_grown) (by simp; omega)⟩

set_option maxHeartbeats 1000000 in
theorem with_0 (a : V8) (n : Int) (w : World) : Calls Tryd.prog 50 #[a.val, st n 0] w fun e w' => e = .returned (V8.val ⟨mx a.x0 n, a.x1, a.x2, a.x3, a.x4, a.x5, a.x6, a.x7⟩) ∧ Below w.heap.size w w' := by
  have hmx := run_mx
  go_enter Tryd.func50, Tryd.ntmps50
  go_wp2_with (go_at_call 63; with_reducible refine (calls_ext0 (known_yes _ _ (by decide) (by decide) _)).mono ?_; rintro e w' ⟨rfl, nq, rfl⟩)
  go_region
  go_wp2
  refine bodyPost_ret (v := V8.val ⟨mx a.x0 n, a.x1, a.x2, a.x3, a.x4, a.x5, a.x6, a.x7⟩) (by simp [results, Tryd.results50, go_sem]) rfl ⟨rfl, ?_⟩
  (repeat' (first | with_reducible exact Below.refl _ _ | with_reducible assumption | with_reducible refine below_ext ?_ ?_ | with_reducible refine Below.alloc ?_ ?_ _ | with_reducible refine Below.drew ?_ | with_reducible refine below_drewN ?_ _ | with_reducible refine Below.setCell ?_ ?_ _ | go_size))
set_option maxHeartbeats 1000000 in
theorem with_1 (a : V8) (n : Int) (w : World) : Calls Tryd.prog 50 #[a.val, st n 1] w fun e w' => e = .returned (V8.val ⟨a.x0, mx a.x1 n, a.x2, a.x3, a.x4, a.x5, a.x6, a.x7⟩) ∧ Below w.heap.size w w' := by
  have hmx := run_mx
  go_enter Tryd.func50, Tryd.ntmps50
  go_wp2_with (go_at_call 63; with_reducible refine (calls_ext0 (known_yes _ _ (by decide) (by decide) _)).mono ?_; rintro e w' ⟨rfl, nq, rfl⟩)
  go_region
  go_wp2
  refine bodyPost_ret (v := V8.val ⟨a.x0, mx a.x1 n, a.x2, a.x3, a.x4, a.x5, a.x6, a.x7⟩) (by simp [results, Tryd.results50, go_sem]) rfl ⟨rfl, ?_⟩
  (repeat' (first | with_reducible exact Below.refl _ _ | with_reducible assumption | with_reducible refine below_ext ?_ ?_ | with_reducible refine Below.alloc ?_ ?_ _ | with_reducible refine Below.drew ?_ | with_reducible refine below_drewN ?_ _ | with_reducible refine Below.setCell ?_ ?_ _ | go_size))
set_option maxHeartbeats 1000000 in
theorem with_2 (a : V8) (n : Int) (w : World) : Calls Tryd.prog 50 #[a.val, st n 2] w fun e w' => e = .returned (V8.val ⟨a.x0, a.x1, mx a.x2 n, a.x3, a.x4, a.x5, a.x6, a.x7⟩) ∧ Below w.heap.size w w' := by
  have hmx := run_mx
  go_enter Tryd.func50, Tryd.ntmps50
  go_wp2_with (go_at_call 63; with_reducible refine (calls_ext0 (known_yes _ _ (by decide) (by decide) _)).mono ?_; rintro e w' ⟨rfl, nq, rfl⟩)
  go_region
  go_wp2
  refine bodyPost_ret (v := V8.val ⟨a.x0, a.x1, mx a.x2 n, a.x3, a.x4, a.x5, a.x6, a.x7⟩) (by simp [results, Tryd.results50, go_sem]) rfl ⟨rfl, ?_⟩
  (repeat' (first | with_reducible exact Below.refl _ _ | with_reducible assumption | with_reducible refine below_ext ?_ ?_ | with_reducible refine Below.alloc ?_ ?_ _ | with_reducible refine Below.drew ?_ | with_reducible refine below_drewN ?_ _ | with_reducible refine Below.setCell ?_ ?_ _ | go_size))
set_option maxHeartbeats 1000000 in
theorem with_3 (a : V8) (n : Int) (w : World) : Calls Tryd.prog 50 #[a.val, st n 3] w fun e w' => e = .returned (V8.val ⟨a.x0, a.x1, a.x2, mx a.x3 n, a.x4, a.x5, a.x6, a.x7⟩) ∧ Below w.heap.size w w' := by
  have hmx := run_mx
  go_enter Tryd.func50, Tryd.ntmps50
  go_wp2_with (go_at_call 63; with_reducible refine (calls_ext0 (known_yes _ _ (by decide) (by decide) _)).mono ?_; rintro e w' ⟨rfl, nq, rfl⟩)
  go_region
  go_wp2
  refine bodyPost_ret (v := V8.val ⟨a.x0, a.x1, a.x2, mx a.x3 n, a.x4, a.x5, a.x6, a.x7⟩) (by simp [results, Tryd.results50, go_sem]) rfl ⟨rfl, ?_⟩
  (repeat' (first | with_reducible exact Below.refl _ _ | with_reducible assumption | with_reducible refine below_ext ?_ ?_ | with_reducible refine Below.alloc ?_ ?_ _ | with_reducible refine Below.drew ?_ | with_reducible refine below_drewN ?_ _ | with_reducible refine Below.setCell ?_ ?_ _ | go_size))
set_option maxHeartbeats 1000000 in
theorem with_4 (a : V8) (n : Int) (w : World) : Calls Tryd.prog 50 #[a.val, st n 4] w fun e w' => e = .returned (V8.val ⟨a.x0, a.x1, a.x2, a.x3, mx a.x4 n, a.x5, a.x6, a.x7⟩) ∧ Below w.heap.size w w' := by
  have hmx := run_mx
  go_enter Tryd.func50, Tryd.ntmps50
  go_wp2_with (go_at_call 63; with_reducible refine (calls_ext0 (known_yes _ _ (by decide) (by decide) _)).mono ?_; rintro e w' ⟨rfl, nq, rfl⟩)
  go_region
  go_wp2
  refine bodyPost_ret (v := V8.val ⟨a.x0, a.x1, a.x2, a.x3, mx a.x4 n, a.x5, a.x6, a.x7⟩) (by simp [results, Tryd.results50, go_sem]) rfl ⟨rfl, ?_⟩
  (repeat' (first | with_reducible exact Below.refl _ _ | with_reducible assumption | with_reducible refine below_ext ?_ ?_ | with_reducible refine Below.alloc ?_ ?_ _ | with_reducible refine Below.drew ?_ | with_reducible refine below_drewN ?_ _ | with_reducible refine Below.setCell ?_ ?_ _ | go_size))
set_option maxHeartbeats 1000000 in
theorem with_5 (a : V8) (n : Int) (w : World) : Calls Tryd.prog 50 #[a.val, st n 5] w fun e w' => e = .returned (V8.val ⟨a.x0, a.x1, a.x2, a.x3, a.x4, mx a.x5 n, a.x6, a.x7⟩) ∧ Below w.heap.size w w' := by
  have hmx := run_mx
  go_enter Tryd.func50, Tryd.ntmps50
  go_wp2_with (go_at_call 63; with_reducible refine (calls_ext0 (known_yes _ _ (by decide) (by decide) _)).mono ?_; rintro e w' ⟨rfl, nq, rfl⟩)
  go_region
  go_wp2
  refine bodyPost_ret (v := V8.val ⟨a.x0, a.x1, a.x2, a.x3, a.x4, mx a.x5 n, a.x6, a.x7⟩) (by simp [results, Tryd.results50, go_sem]) rfl ⟨rfl, ?_⟩
  (repeat' (first | with_reducible exact Below.refl _ _ | with_reducible assumption | with_reducible refine below_ext ?_ ?_ | with_reducible refine Below.alloc ?_ ?_ _ | with_reducible refine Below.drew ?_ | with_reducible refine below_drewN ?_ _ | with_reducible refine Below.setCell ?_ ?_ _ | go_size))
set_option maxHeartbeats 1000000 in
theorem with_6 (a : V8) (n : Int) (w : World) : Calls Tryd.prog 50 #[a.val, st n 6] w fun e w' => e = .returned (V8.val ⟨a.x0, a.x1, a.x2, a.x3, a.x4, a.x5, mx a.x6 n, a.x7⟩) ∧ Below w.heap.size w w' := by
  have hmx := run_mx
  go_enter Tryd.func50, Tryd.ntmps50
  go_wp2_with (go_at_call 63; with_reducible refine (calls_ext0 (known_yes _ _ (by decide) (by decide) _)).mono ?_; rintro e w' ⟨rfl, nq, rfl⟩)
  go_region
  go_wp2
  refine bodyPost_ret (v := V8.val ⟨a.x0, a.x1, a.x2, a.x3, a.x4, a.x5, mx a.x6 n, a.x7⟩) (by simp [results, Tryd.results50, go_sem]) rfl ⟨rfl, ?_⟩
  (repeat' (first | with_reducible exact Below.refl _ _ | with_reducible assumption | with_reducible refine below_ext ?_ ?_ | with_reducible refine Below.alloc ?_ ?_ _ | with_reducible refine Below.drew ?_ | with_reducible refine below_drewN ?_ _ | with_reducible refine Below.setCell ?_ ?_ _ | go_size))
set_option maxHeartbeats 1000000 in
theorem with_7 (a : V8) (n : Int) (w : World) : Calls Tryd.prog 50 #[a.val, st n 7] w fun e w' => e = .returned (V8.val ⟨a.x0, a.x1, a.x2, a.x3, a.x4, a.x5, a.x6, mx a.x7 n⟩) ∧ Below w.heap.size w w' := by
  have hmx := run_mx
  go_enter Tryd.func50, Tryd.ntmps50
  go_wp2_with (go_at_call 63; with_reducible refine (calls_ext0 (known_yes _ _ (by decide) (by decide) _)).mono ?_; rintro e w' ⟨rfl, nq, rfl⟩)
  go_region
  go_wp2
  refine bodyPost_ret (v := V8.val ⟨a.x0, a.x1, a.x2, a.x3, a.x4, a.x5, a.x6, mx a.x7 n⟩) (by simp [results, Tryd.results50, go_sem]) rfl ⟨rfl, ?_⟩
  (repeat' (first | with_reducible exact Below.refl _ _ | with_reducible assumption | with_reducible refine below_ext ?_ ?_ | with_reducible refine Below.alloc ?_ ?_ _ | with_reducible refine Below.drew ?_ | with_reducible refine below_drewN ?_ _ | with_reducible refine Below.setCell ?_ ?_ _ | go_size))
set_option maxHeartbeats 1000000 in
theorem with_none (a : V8) (n r : Int) (h : ¬ (0 ≤ r ∧ r < 8)) (w : World) : Calls Tryd.prog 50 #[a.val, st n r] w fun e w' => e = .returned a.val ∧ Below w.heap.size w w' := by
  have hk := known_no n r h
  clear h
  go_enter Tryd.func50, Tryd.ntmps50
  go_wp2_with (go_at_call 63; with_reducible refine (calls_ext0 (hk _)).mono ?_; rintro e w' ⟨rfl, nq, rfl⟩)
  refine bodyPost_ret (v := V8.val a) (by simp [results, Tryd.results50, go_sem]) rfl ⟨rfl, ?_⟩
  (repeat' (first | with_reducible exact Below.refl _ _ | with_reducible assumption | with_reducible refine below_ext ?_ ?_ | with_reducible refine Below.alloc ?_ ?_ _ | with_reducible refine Below.drew ?_ | with_reducible refine below_drewN ?_ _ | with_reducible refine Below.setCell ?_ ?_ _ | go_size))
theorem with_any (a : V8) (n r : Int) (w : World) : Calls Tryd.prog 50 #[a.val, st n r] w fun e w' => e = .returned (a.with n r).val ∧ Below w.heap.size w w' := by
  by_cases h : 0 ≤ r ∧ r < 8
  · rcases known8 h.1 h.2 with rfl | rfl | rfl | rfl | rfl | rfl | rfl | rfl
    · exact with_0 a n w
    · exact with_1 a n w
    · exact with_2 a n w
    · exact with_3 a n w
    · exact with_4 a n w
    · exact with_5 a n w
    · exact with_6 a n w
    · exact with_7 a n w
  · rw [with_no a n r h]; exact with_none a n r h w
def V8.nth (a : V8) (i : Nat) : Int := a.at i
def V8.mostTo (a : V8) : Nat → Int
  | 0 => a.nth 0
  | k + 1 => mx (a.mostTo k) (a.nth (k + 1))
theorem mostTo_all (a : V8) : a.mostTo 7 = a.most := by
  simp [V8.mostTo, V8.most, V8.nth, V8.at]
theorem nat8 {i : Nat} (h : i < 8) : i = 0 ∨ i = 1 ∨ i = 2 ∨ i = 3 ∨ i = 4 ∨ i = 5 ∨ i = 6 ∨ i = 7 := by omega
def V8.cells (a : V8) : Array Value := #[.int .i64 a.x0, .int .i64 a.x1, .int .i64 a.x2, .int .i64 a.x3, .int .i64 a.x4, .int .i64 a.x5, .int .i64 a.x6, .int .i64 a.x7]
theorem cells_at (a : V8) (i : Nat) (h : i < 8) : a.cells[i]? = some (.int .i64 (a.nth i)) := by
  rcases nat8 h with rfl | rfl | rfl | rfl | rfl | rfl | rfl | rfl <;> simp [V8.cells, V8.nth, V8.at]
theorem cell_vec (w : World) (a : V8) (T i : Nat) (h : i < 8) : (w.alloc (.cells a.cells T)).cell? ⟨w.heap.size, i, none⟩ = some (.int .i64 (a.nth i)) := by
  exact (World.cell?_alloc_mark w a.cells T (0, 0) i).trans (cells_at a i h)


theorem Slot.info : (Tryd.prog.info? 3).map (fun i => (i.zero, i.size, i.bytes)) = some (some (.int .i64 0), 1, 8) := by kernel_rfl
/-- slices.Max over eight numbers that lie in memory. -/
theorem max_any (a : V8) (b : Nat) (w : World) (hc : ∀ i, i < 8 → w.cell? ⟨b, i, none⟩ = some (.int .i64 (a.nth i))) :
    Calls Tryd.prog 64 #[.slice (some ⟨b, 0, none⟩) 8 8] w fun e w' => e = .returned (.int .i64 a.most) ∧ w' = w := by
  have hmx := run_mx
  have h0 := hc 0 (by omega)
  have HC := Lib.hid hc
  clear hc
  go_enter Tryd.func64, Tryd.ntmps64
  go_wp2
  go_loop [3, 4] (fun n i => ∃ k : Nat, k ≤ 7 ∧ i = .int .i64 ((k : Int) + 1) ∧ n = .int .i64 (a.mostTo k)) (fun _ i => 9 - (intOf i).toNat)
  case atStart => exact ⟨0, by omega, rfl, rfl⟩
  case round =>
    obtain ⟨k, hk, rfl, rfl⟩ := hrel
    by_cases h7 : k < 7
    · have hck := HC.out (k + 1) (by omega)
      go_wp2
      go_round
      case rel => exact ⟨k + 1, by omega, by go_num, rfl⟩
      case measure => simp [intOf]; omega
    · have h7' : k = 7 := by omega
      subst h7'
      rw [mostTo_all]
      go_wp2
      go_ret
      exact ⟨rfl, rfl⟩
theorem most_any (a : V8) (w : World) : Calls Tryd.prog 41 #[a.val] w fun e w' => e = .returned (.int .i64 a.most) ∧ Below w.heap.size w w' := by
  have hc := fun i h => cell_vec w a 33 i h
  unfold V8.cells at hc
  have HC := Lib.hid hc
  clear hc
  go_enter Tryd.func41, Tryd.ntmps41
  go_wp2_with (go_at_call 64; refine (max_any a _ _ (by exact HC.out)).mono ?_; rintro e w' ⟨rfl, rfl⟩)
  go_ret
  exact ⟨rfl, by go_grown⟩

theorem has_at (a : V8) (n : Int) (k : Nat) (h : k < 8) : a.has n k = decide (n ≤ a.nth k) := by
  have : knownB (k : Int) = true := (known_iff _).2 ⟨by omega, by omega⟩
  simp only [V8.has, this, Bool.true_and]
  exact decide_eq_decide.2 Iff.rfl
theorem has_out (a : V8) (n r : Int) (h : ∀ j : Nat, j < 8 → (j : Int) ≠ r) : a.has n r = false := by
  refine has_no a n r (fun ⟨h0, h8⟩ => ?_)
  obtain ⟨m, rfl⟩ := Int.eq_ofNat_of_zero_le h0
  exact h m (by omega) rfl

set_option maxHeartbeats 1000000 in
theorem refHas_any (a : V8) (n r : Int) (w : World) : Calls Tryd.prog 38 #[a.val, st n r] w fun e w' => e = .returned (.bool (a.has n r)) ∧ Below w.heap.size w w' := by
  have hc : ∀ (o : Obj) (i : Nat), i < 8 → ((w.alloc (.cells a.cells 33)).alloc o).cell? ⟨w.heap.size, i, none⟩ = some (.int .i64 (a.nth i)) := fun o i h => by
    rw [World.cell?_alloc_lt _ _ _ (by simp)]
    exact cell_vec w a 33 i h
  unfold V8.cells at hc
  have HC := Lib.hid hc
  clear hc
  go_enter Tryd.func38, Tryd.ntmps38
  go_wp2
  go_loop [5] (fun i => ∃ k : Nat, k ≤ 8 ∧ i = .int .i64 (k : Int) ∧ ∀ j : Nat, j < k → (j : Int) ≠ r) (fun i => 8 - (intOf i).toNat)
  case atStart => exact ⟨0, by omega, rfl, fun j h => by omega⟩
  case round =>
    obtain ⟨k, hk, rfl, hne⟩ := hrel
    have HN := Lib.hid hne
    clear hne
    by_cases h8 : k < 8
    · have hck := HC.out (.cells #[.int .i64 n, .int .i64 r] 31) k h8
      by_cases hr : (k : Int) = r
      · subst hr
        go_wp2
        go_quiet (fail)
        go_wp2
        go_ret
        exact ⟨congrArg (fun b => Ending.returned (.bool b)) (has_at a n k h8).symm, by (repeat' (first | with_reducible exact Below.refl _ _ | with_reducible assumption | with_reducible refine below_ext ?_ ?_ | with_reducible refine Below.alloc ?_ ?_ _ | with_reducible refine Below.drew ?_ | with_reducible refine below_drewN ?_ _ | with_reducible refine Below.setCell ?_ ?_ _ | go_size))⟩
      · have hb : ((k : Int) == r) = false := by simp; omega
        have HR := Lib.hid hr
        clear hr
        go_wp2
        go_round
        case rel => exact ⟨k + 1, by omega, by go_num, fun j hj => by
          rcases Nat.lt_or_ge j k with h | h
          · exact HN.out j h
          · obtain rfl : j = k := by omega
            exact HR.out⟩
        case measure => simp [intOf]; omega
    · have h8' : k = 8 := by omega
      subst h8'
      go_wp2
      go_ret
      exact ⟨congrArg (fun b => Ending.returned (.bool b)) (has_out a n r HN.out).symm, by (repeat' (first | with_reducible exact Below.refl _ _ | with_reducible assumption | with_reducible refine below_ext ?_ ?_ | with_reducible refine Below.alloc ?_ ?_ _ | with_reducible refine Below.drew ?_ | with_reducible refine below_drewN ?_ _ | with_reducible refine Below.setCell ?_ ?_ _ | go_size))⟩

end Go.Proofs.YtiamohfpohjdpaaDoor
