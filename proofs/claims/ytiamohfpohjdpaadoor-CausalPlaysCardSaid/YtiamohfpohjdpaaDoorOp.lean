/- OPERATIONS: what one is, and when two are one. -/
import Derived.Test.YtiamohfpohjdpaaDoorOVec
import Derived.Test.YtiamohfpohjdpaaDoorEq
namespace Go.Proofs.YtiamohfpohjdpaaDoor
open Go.RowKit Go.Joins
set_option linter.unusedSimpArgs false
set_option linter.unusedVariables false

structure OpG where
  n : Int
  r : Int
  d : V8
  kd : Int
  rn : Int
  rr : Int
  side : Int
  ch : Int
  un : Int
  ur : Int
  key : ByteArray
  name : ByteArray
  value : ByteArray
  fn : Int
  fr : Int
  fa : Bool
  tn : Int
  tr : Int
  ta : Bool
abbrev OpG.cells (o : OpG) : Array Value := #[.int .i64 o.n, .int .i64 o.r, .int .i64 o.d.x0, .int .i64 o.d.x1, .int .i64 o.d.x2, .int .i64 o.d.x3, .int .i64 o.d.x4, .int .i64 o.d.x5, .int .i64 o.d.x6, .int .i64 o.d.x7, .int .i64 o.kd, .int .i64 o.rn, .int .i64 o.rr, .int .i64 o.side, .int .i64 o.ch, .int .i64 o.un, .int .i64 o.ur, .string o.key, .string o.name, .string o.value, .int .i64 o.fn, .int .i64 o.fr, .bool o.fa, .int .i64 o.tn, .int .i64 o.tr, .bool o.ta]
abbrev OpG.val (o : OpG) : Value := .agg o.cells
def OpG.bits (a b : OpG) : List Bool := [a.n == b.n && a.r == b.r, a.d.list == b.d.list, a.kd == b.kd, a.rn == b.rn && a.rr == b.rr, a.side == b.side, a.ch == b.ch, a.un == b.un && a.ur == b.ur, a.key == b.key, a.name == b.name, a.value == b.value, a.fn == b.fn && a.fr == b.fr && a.fa == b.fa, a.tn == b.tn && a.tr == b.tr && a.ta == b.ta]
def OpG.beq (a b : OpG) : Bool := (a.bits b).all id
theorem OpG.beq_iff (a b : OpG) : a.beq b = true ↔ a = b := by
  obtain ⟨a1, a2, ⟨c0, c1, c2, c3, c4, c5, c6, c7⟩, a3, a4, a5, a6, a7, a8, a9, a10, a11, a12, a13, a14, a15, a16, a17, a18⟩ := a
  obtain ⟨b1, b2, ⟨d0, d1, d2, d3, d4, d5, d6, d7⟩, b3, b4, b5, b6, b7, b8, b9, b10, b11, b12, b13, b14, b15, b16, b17, b18⟩ := b
  simp [OpG.beq, OpG.bits, V8.list, and_assoc, ba_beq]
instance : DecidableEq OpG := fun a b => decidable_of_iff _ (OpG.beq_iff a b)
theorem OpG.beq_dec (a b : OpG) : a.beq b = decide (a = b) := by
  by_cases h : a = b
  · rw [(OpG.beq_iff a b).2 h, decide_eq_true h]
  · rw [decide_eq_false h, Bool.eq_false_iff]; exact fun e => h ((OpG.beq_iff a b).1 e)
theorem eqSt_run (d : Nat) (n r m q : Int) (w : World) : (Op.equalIn (d + 2) 31 (st n r) (st m q)).run Tryd.prog w = .ok (n == m && r == q) w := by
  have h := eqS_run (P := Tryd.prog) (w := w) (d := d + 1) (t := 31) (xs := #[.int .i64 n, .int .i64 r]) (ys := #[.int .i64 m, .int .i64 q]) Tryd.underlying31 (by kernel_rfl) (bs := [n == m, r == q])
    (.cons ⟨by decide, .int .i64 n, .int .i64 m, by kernel_rfl, by kernel_rfl, eqI_run Tryd.underlying3 n m⟩ (.cons ⟨by decide, .int .i64 r, .int .i64 q, by kernel_rfl, by kernel_rfl, eqI_run Tryd.underlying3 r q⟩ .nil))
  simpa using h
theorem eqAn_run (d : Nat) (n r m q : Int) (a b : Bool) (w : World) : (Op.equalIn (d + 3) 37 (.agg #[.int .i64 n, .int .i64 r, .bool a]) (.agg #[.int .i64 m, .int .i64 q, .bool b])).run Tryd.prog w = .ok (n == m && r == q && a == b) w := by
  have h := eqS_run (P := Tryd.prog) (w := w) (d := d + 2) (t := 37) (xs := #[.int .i64 n, .int .i64 r, .bool a]) (ys := #[.int .i64 m, .int .i64 q, .bool b]) Tryd.underlying37 (by kernel_rfl) (bs := [n == m && r == q, a == b])
    (.cons ⟨by decide, st n r, st m q, by kernel_rfl, by kernel_rfl, eqSt_run d n r m q w⟩ (.cons ⟨by decide, .bool a, .bool b, by kernel_rfl, by kernel_rfl, eqB_run Tryd.underlying4 a b⟩ .nil))
  simpa using h
theorem eqVec_run (d : Nat) (a b : V8) (w : World) : (Op.equalIn (d + 2) 33 a.val b.val).run Tryd.prog w = .ok (a.list == b.list) w := by
  obtain ⟨i0, hi, _, _, _⟩ := info_parts (by kernel_rfl : (Tryd.prog.info? 3).map (fun i => (i.zero, i.size, i.bytes)) = some (some (.int .i64 0), 1, 8))
  exact eqInts_run (P := Tryd.prog) (t := 33) (e := 3) (n := 8) (i := i0) Tryd.underlying33 hi (by kernel_rfl) (by kernel_rfl) Tryd.underlying3 a.list b.list rfl rfl
theorem eqOp_run (a b : OpG) (w : World) : (Op.equalIn 10000 39 a.val b.val).run Tryd.prog w = .ok (a.beq b) w :=
  eqS_run (P := Tryd.prog) (w := w) (d := 9999) (t := 39) (xs := a.cells) (ys := b.cells) Tryd.underlying39 (by kernel_rfl) (bs := a.bits b)
    (.cons ⟨by decide, st a.n a.r, st b.n b.r, by kernel_rfl, by kernel_rfl, eqSt_run 9997 _ _ _ _ w⟩
    (.cons ⟨by decide, a.d.val, b.d.val, by kernel_rfl, by kernel_rfl, eqVec_run 9997 _ _ w⟩
    (.cons ⟨by decide, .int .i64 a.kd, .int .i64 b.kd, by kernel_rfl, by kernel_rfl, eqI_run Tryd.underlying34 _ _⟩
    (.cons ⟨by decide, st a.rn a.rr, st b.rn b.rr, by kernel_rfl, by kernel_rfl, eqSt_run 9997 _ _ _ _ w⟩
    (.cons ⟨by decide, .int .i64 a.side, .int .i64 b.side, by kernel_rfl, by kernel_rfl, eqI_run Tryd.underlying35 _ _⟩
    (.cons ⟨by decide, .int .i64 a.ch, .int .i64 b.ch, by kernel_rfl, by kernel_rfl, eqI_run Tryd.underlying3 _ _⟩
    (.cons ⟨by decide, st a.un a.ur, st b.un b.ur, by kernel_rfl, by kernel_rfl, eqSt_run 9997 _ _ _ _ w⟩
    (.cons ⟨by decide, .string a.key, .string b.key, by kernel_rfl, by kernel_rfl, eqStr_run Tryd.underlying9 _ _⟩
    (.cons ⟨by decide, .string a.name, .string b.name, by kernel_rfl, by kernel_rfl, eqStr_run Tryd.underlying9 _ _⟩
    (.cons ⟨by decide, .string a.value, .string b.value, by kernel_rfl, by kernel_rfl, eqStr_run Tryd.underlying9 _ _⟩
    (.cons ⟨by decide, .agg #[.int .i64 a.fn, .int .i64 a.fr, .bool a.fa], .agg #[.int .i64 b.fn, .int .i64 b.fr, .bool b.fa], by kernel_rfl, by kernel_rfl, eqAn_run 9996 _ _ _ _ _ _ w⟩
    (.cons ⟨by decide, .agg #[.int .i64 a.tn, .int .i64 a.tr, .bool a.ta], .agg #[.int .i64 b.tn, .int .i64 b.tr, .bool b.ta], by kernel_rfl, by kernel_rfl, eqAn_run 9996 _ _ _ _ _ _ w⟩ .nil))))))))))))
theorem run_opEq (a b : OpG) (w : World) : (Op.equal 39 a.val b.val).run Tryd.prog w = .ok (a.beq b) w := eqOp_run a b w
theorem run_opGuard (xs ys : Array Value) (x y : Operand) (w : World) : (eqGuard .eql 39 x y (.agg xs) (.agg ys)).run Tryd.prog w = .ok () w := by kernel_rfl
theorem run_stEq (n r m q : Int) (w : World) : (Op.equalIn 10000 31 (st n r) (st m q)).run Tryd.prog w = .ok (n == m && r == q) w := eqSt_run 9998 n r m q w
theorem run_stGuard (xs ys : Array Value) (x y : Operand) (w : World) : (eqGuard .eql 31 x y (.agg xs) (.agg ys)).run Tryd.prog w = .ok () w := by kernel_rfl
end Go.Proofs.YtiamohfpohjdpaaDoor
