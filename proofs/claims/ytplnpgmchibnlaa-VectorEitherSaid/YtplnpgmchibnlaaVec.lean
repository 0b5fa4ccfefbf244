/- VECTORS: what the functions of package vector and of its reference compute, and what they do to memory. -/
import Derived.Test.YtplnpgmchibnlaaBase
namespace Go.Proofs.Ytplnpgmchibnlaa
open Go.RowKit

def mx (x y : Int) : Int := if y > x then y else x
theorem run_mx (ts : Array TypeId) (t : TypeId) (x y : Int) (w : World) : (Builtin.max_ ts t #[.int .i64 x, .int .i64 y]).run Try.prog w = .ok (.int .i64 (mx x y)) w := by
  simp [Builtin.max_, Builtin.max2, mx]
structure V8 where
  x0 : Int
  x1 : Int
  x2 : Int
  x3 : Int
  x4 : Int
  x5 : Int
  x6 : Int
  x7 : Int
abbrev vec (a0 a1 a2 a3 a4 a5 a6 a7 : Int) : Value := .agg #[.int .i64 a0, .int .i64 a1, .int .i64 a2, .int .i64 a3, .int .i64 a4, .int .i64 a5, .int .i64 a6, .int .i64 a7]
abbrev V8.val (v : V8) : Value := .agg #[.int .i64 v.x0, .int .i64 v.x1, .int .i64 v.x2, .int .i64 v.x3, .int .i64 v.x4, .int .i64 v.x5, .int .i64 v.x6, .int .i64 v.x7]
abbrev st (n r : Int) : Value := .agg #[.int .i64 n, .int .i64 r]
def V8.join (a b : V8) : V8 := ⟨mx a.x0 b.x0, mx a.x1 b.x1, mx a.x2 b.x2, mx a.x3 b.x3, mx a.x4 b.x4, mx a.x5 b.x5, mx a.x6 b.x6, mx a.x7 b.x7⟩
def V8.list (a : V8) : List Int := [a.x0, a.x1, a.x2, a.x3, a.x4, a.x5, a.x6, a.x7]
def V8.beq (a b : V8) : Bool := a.list == b.list
def V8.cov (a b : V8) : Bool := (a.join b).beq a
def V8.at (a : V8) (r : Int) : Int := if r = 0 then a.x0 else if r = 1 then a.x1 else if r = 2 then a.x2 else if r = 3 then a.x3 else if r = 4 then a.x4 else if r = 5 then a.x5 else if r = 6 then a.x6 else a.x7
def knownB (r : Int) : Bool := decide (0 ≤ r) && decide (r < 8)
def V8.has (a : V8) (n r : Int) : Bool := knownB r && decide (n ≤ a.at r)
def V8.with (a : V8) (n r : Int) : V8 := ⟨if r = 0 then mx a.x0 n else a.x0, if r = 1 then mx a.x1 n else a.x1, if r = 2 then mx a.x2 n else a.x2, if r = 3 then mx a.x3 n else a.x3, if r = 4 then mx a.x4 n else a.x4, if r = 5 then mx a.x5 n else a.x5, if r = 6 then mx a.x6 n else a.x6, if r = 7 then mx a.x7 n else a.x7⟩
def V8.most (a : V8) : Int := mx (mx (mx (mx (mx (mx (mx (a.x0) a.x1) a.x2) a.x3) a.x4) a.x5) a.x6) a.x7
theorem run_guard (xs ys : Array Value) (x y : Operand) (w : World) : (eqGuard .eql 23 x y (.agg xs) (.agg ys)).run Try.prog w = .ok () w := by kernel_rfl
theorem run_eqv (a0 a1 a2 a3 a4 a5 a6 a7 b0 b1 b2 b3 b4 b5 b6 b7 : Int) (w : World) : (Op.equalIn 10000 23 (.agg #[.int .i64 a0, .int .i64 a1, .int .i64 a2, .int .i64 a3, .int .i64 a4, .int .i64 a5, .int .i64 a6, .int .i64 a7]) (.agg #[.int .i64 b0, .int .i64 b1, .int .i64 b2, .int .i64 b3, .int .i64 b4, .int .i64 b5, .int .i64 b6, .int .i64 b7])).run Try.prog w = .ok (V8.beq ⟨a0, a1, a2, a3, a4, a5, a6, a7⟩ ⟨b0, b1, b2, b3, b4, b5, b6, b7⟩) w := by
  obtain ⟨i0, hi, _, _, _⟩ := info_parts (by kernel_rfl : (Try.prog.info? 3).map (fun i => (i.zero, i.size, i.bytes)) = some (some (.int .i64 0), 1, 8))
  exact run_equal_ints (P := Try.prog) (t := 23) (e := 3) (n := 8) (i := i0) Try.underlying23 hi (by kernel_rfl) (by kernel_rfl) Try.underlying3 [a0, a1, a2, a3, a4, a5, a6, a7] [b0, b1, b2, b3, b4, b5, b6, b7] rfl rfl w
theorem idx0 (b0 b1 b2 b3 b4 b5 b6 b7 : Int) (w : World) : (Instr.index 23 (.agg #[.int .i64 b0, .int .i64 b1, .int .i64 b2, .int .i64 b3, .int .i64 b4, .int .i64 b5, .int .i64 b6, .int .i64 b7]) (.int .i64 0)).run Try.prog w = .ok (.int .i64 b0) w := by kernel_rfl
theorem idx1 (b0 b1 b2 b3 b4 b5 b6 b7 : Int) (w : World) : (Instr.index 23 (.agg #[.int .i64 b0, .int .i64 b1, .int .i64 b2, .int .i64 b3, .int .i64 b4, .int .i64 b5, .int .i64 b6, .int .i64 b7]) (.int .i64 1)).run Try.prog w = .ok (.int .i64 b1) w := by kernel_rfl
theorem idx2 (b0 b1 b2 b3 b4 b5 b6 b7 : Int) (w : World) : (Instr.index 23 (.agg #[.int .i64 b0, .int .i64 b1, .int .i64 b2, .int .i64 b3, .int .i64 b4, .int .i64 b5, .int .i64 b6, .int .i64 b7]) (.int .i64 2)).run Try.prog w = .ok (.int .i64 b2) w := by kernel_rfl
theorem idx3 (b0 b1 b2 b3 b4 b5 b6 b7 : Int) (w : World) : (Instr.index 23 (.agg #[.int .i64 b0, .int .i64 b1, .int .i64 b2, .int .i64 b3, .int .i64 b4, .int .i64 b5, .int .i64 b6, .int .i64 b7]) (.int .i64 3)).run Try.prog w = .ok (.int .i64 b3) w := by kernel_rfl
theorem idx4 (b0 b1 b2 b3 b4 b5 b6 b7 : Int) (w : World) : (Instr.index 23 (.agg #[.int .i64 b0, .int .i64 b1, .int .i64 b2, .int .i64 b3, .int .i64 b4, .int .i64 b5, .int .i64 b6, .int .i64 b7]) (.int .i64 4)).run Try.prog w = .ok (.int .i64 b4) w := by kernel_rfl
theorem idx5 (b0 b1 b2 b3 b4 b5 b6 b7 : Int) (w : World) : (Instr.index 23 (.agg #[.int .i64 b0, .int .i64 b1, .int .i64 b2, .int .i64 b3, .int .i64 b4, .int .i64 b5, .int .i64 b6, .int .i64 b7]) (.int .i64 5)).run Try.prog w = .ok (.int .i64 b5) w := by kernel_rfl
theorem idx6 (b0 b1 b2 b3 b4 b5 b6 b7 : Int) (w : World) : (Instr.index 23 (.agg #[.int .i64 b0, .int .i64 b1, .int .i64 b2, .int .i64 b3, .int .i64 b4, .int .i64 b5, .int .i64 b6, .int .i64 b7]) (.int .i64 6)).run Try.prog w = .ok (.int .i64 b6) w := by kernel_rfl
theorem idx7 (b0 b1 b2 b3 b4 b5 b6 b7 : Int) (w : World) : (Instr.index 23 (.agg #[.int .i64 b0, .int .i64 b1, .int .i64 b2, .int .i64 b3, .int .i64 b4, .int .i64 b5, .int .i64 b6, .int .i64 b7]) (.int .i64 7)).run Try.prog w = .ok (.int .i64 b7) w := by kernel_rfl

theorem open_vec {w : World} {r : Reach} {base : Nat} {v : Value} (h : Value.okWide Try.prog w r base 23 v) : ∃ a : V8, v = a.val := by
  obtain ⟨cs, rfl, hs, hr⟩ := agg_array Try.underlying23 h
  have hcs : cs.size = 8 := hs.trans (by kernel_rfl)
  obtain ⟨c0, c1, c2, c3, c4, c5, c6, c7, rfl⟩ := list8 hcs
  have ht : Try.prog.cellTypes Try.prog.depth 23 = some [3, 3, 3, 3, 3, 3, 3, 3] := by kernel_rfl
  obtain ⟨u0, e0, k0⟩ := row_cell ht hr 0 c0 rfl
  obtain rfl : 3 = u0 := by simpa using e0
  obtain ⟨a0, rfl, _⟩ := cell_int Try.underlying3 k0
  obtain ⟨u1, e1, k1⟩ := row_cell ht hr 1 c1 rfl
  obtain rfl : 3 = u1 := by simpa using e1
  obtain ⟨a1, rfl, _⟩ := cell_int Try.underlying3 k1
  obtain ⟨u2, e2, k2⟩ := row_cell ht hr 2 c2 rfl
  obtain rfl : 3 = u2 := by simpa using e2
  obtain ⟨a2, rfl, _⟩ := cell_int Try.underlying3 k2
  obtain ⟨u3, e3, k3⟩ := row_cell ht hr 3 c3 rfl
  obtain rfl : 3 = u3 := by simpa using e3
  obtain ⟨a3, rfl, _⟩ := cell_int Try.underlying3 k3
  obtain ⟨u4, e4, k4⟩ := row_cell ht hr 4 c4 rfl
  obtain rfl : 3 = u4 := by simpa using e4
  obtain ⟨a4, rfl, _⟩ := cell_int Try.underlying3 k4
  obtain ⟨u5, e5, k5⟩ := row_cell ht hr 5 c5 rfl
  obtain rfl : 3 = u5 := by simpa using e5
  obtain ⟨a5, rfl, _⟩ := cell_int Try.underlying3 k5
  obtain ⟨u6, e6, k6⟩ := row_cell ht hr 6 c6 rfl
  obtain rfl : 3 = u6 := by simpa using e6
  obtain ⟨a6, rfl, _⟩ := cell_int Try.underlying3 k6
  obtain ⟨u7, e7, k7⟩ := row_cell ht hr 7 c7 rfl
  obtain rfl : 3 = u7 := by simpa using e7
  obtain ⟨a7, rfl, _⟩ := cell_int Try.underlying3 k7
  exact ⟨⟨a0, a1, a2, a3, a4, a5, a6, a7⟩, rfl⟩
theorem open_st {w : World} {r : Reach} {base : Nat} {v : Value} (h : Value.okWide Try.prog w r base 27 v) : ∃ n r, v = st n r ∧ IntKind.i64.has n ∧ IntKind.i64.has r := by
  obtain ⟨cs, rfl, hs, hr⟩ := agg_struct Try.underlying27 h
  have hcs : cs.size = 2 := hs.trans (by kernel_rfl)
  obtain ⟨c0, c1, rfl⟩ := list2 hcs
  have ht : Try.prog.cellTypes Try.prog.depth 27 = some [3, 3] := by kernel_rfl
  obtain ⟨u0, e0, k0⟩ := row_cell ht hr 0 c0 rfl
  obtain rfl : 3 = u0 := by simpa using e0
  obtain ⟨n, rfl, h0⟩ := cell_int Try.underlying3 k0
  obtain ⟨u1, e1, k1⟩ := row_cell ht hr 1 c1 rfl
  obtain rfl : 3 = u1 := by simpa using e1
  obtain ⟨m, rfl, h1⟩ := cell_int Try.underlying3 k1
  exact ⟨n, m, rfl, h0, h1⟩

set_option maxHeartbeats 1000000 in
theorem join_any (a b : V8) (w : World) : Calls Try.prog 15 #[a.val, b.val] w fun e w' => e = .returned (a.join b).val ∧ Below w.heap.size w w' := by
  obtain ⟨a0, a1, a2, a3, a4, a5, a6, a7⟩ := a
  obtain ⟨b0, b1, b2, b3, b4, b5, b6, b7⟩ := b
  have hmx := run_mx
  have i0 := idx0 b0 b1 b2 b3 b4 b5 b6 b7
  have i1 := idx1 b0 b1 b2 b3 b4 b5 b6 b7
  have i2 := idx2 b0 b1 b2 b3 b4 b5 b6 b7
  have i3 := idx3 b0 b1 b2 b3 b4 b5 b6 b7
  have i4 := idx4 b0 b1 b2 b3 b4 b5 b6 b7
  have i5 := idx5 b0 b1 b2 b3 b4 b5 b6 b7
  have i6 := idx6 b0 b1 b2 b3 b4 b5 b6 b7
  have i7 := idx7 b0 b1 b2 b3 b4 b5 b6 b7
  go_enter Try.func15, Try.ntmps15
  go_wp2
  go_rounds 9
  refine bodyPost_ret (v := vec (mx a0 b0) (mx a1 b1) (mx a2 b2) (mx a3 b3) (mx a4 b4) (mx a5 b5) (mx a6 b6) (mx a7 b7)) (by simp [results, Try.results15, go_sem]) rfl ⟨rfl, ?_⟩
  go_grown

theorem covers_any (a b : V8) (w : World) : Calls Try.prog 9 #[a.val, b.val] w fun e w' => e = .returned (.bool (a.cov b)) ∧ Below w.heap.size w w' := by
  have heq := run_eqv
  have hg := run_guard
  obtain ⟨a0, a1, a2, a3, a4, a5, a6, a7⟩ := a
  obtain ⟨b0, b1, b2, b3, b4, b5, b6, b7⟩ := b
  have hx := ext_cell
  go_enter Try.func9, Try.ntmps9
  go_wp2
  refine region_ext (by kernel_rfl) (by kernel_rfl) ?_
  repeat (go_big_quiet_step ((go_at_call 15; exact calls_ext (join_any ⟨a0, a1, a2, a3, a4, a5, a6, a7⟩ ⟨b0, b1, b2, b3, b4, b5, b6, b7⟩ _))))
  refine wpQuiet_nil ?_
  rintro _ ⟨nq, rfl⟩
  go_wp2
  go_ret
  exact ⟨rfl, below_ext (by go_grown) (by simp; omega)⟩
end Go.Proofs.Ytplnpgmchibnlaa
