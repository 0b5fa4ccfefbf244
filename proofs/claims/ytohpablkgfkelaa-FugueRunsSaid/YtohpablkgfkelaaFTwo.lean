/- TWO RUNS THAT CAME IN, opened. -/
import Derived.Test.YtohpablkgfkelaaFRunsC
namespace Go.Proofs.Ytohpablkgfkelaa
open Go.RowKit Go.Joins
set_option linter.unusedSimpArgs false
set_option linter.unusedVariables false
theorem has_in {z : Int} (h : IntKind.i64.has z) : -9223372036854775808 ≤ z ∧ z ≤ 9223372036854775807 := by
  have hmin : IntKind.i64.min = -9223372036854775808 := by decide
  have hmax : IntKind.i64.max = 9223372036854775807 := by decide
  unfold IntKind.has at h
  omega
theorem arr4 {cs : Array Value} (h : cs.size = 4) : ∃ c0 c1 c2 c3, cs = #[c0, c1, c2, c3] := by
  obtain ⟨l⟩ := cs
  match l, h with
  | [c0, c1, c2, c3], _ => exact ⟨c0, c1, c2, c3, rfl⟩
set_option maxRecDepth 100000 in
theorem open_two {w : World} {r : Reach} {base : Nat} {v : Value} (h : Value.okWide Try.prog w r base 50 v) : ∃ (x0 : Int) (b0 : Bool) (x1 : Int) (b1 : Bool), v = .agg #[.int .i64 x0, .bool b0, .int .i64 x1, .bool b1] ∧ (-9223372036854775808 ≤ x0 ∧ x0 ≤ 9223372036854775807) ∧ (-9223372036854775808 ≤ x1 ∧ x1 ≤ 9223372036854775807) := by
  obtain ⟨cs, rfl, hs, hr⟩ := agg_array Try.underlying50 h
  have hcs : cs.size = 4 := hs.trans (by kernel_rfl)
  obtain ⟨c0, c1, c2, c3, rfl⟩ := arr4 hcs
  obtain ⟨ts, ht⟩ : ∃ ts, Try.prog.cellTypes Try.prog.depth 50 = some ts := by
    cases hx : Try.prog.cellTypes Try.prog.depth 50 with
    | some ts => exact ⟨ts, rfl⟩
    | none => exact absurd (show (Try.prog.cellTypes Try.prog.depth 50).isSome = true by kernel_rfl) (by rw [hx]; simp)
  have key : ∀ i, (Try.prog.cellTypes Try.prog.depth 50).bind (fun ts => ts[i % ts.length]?) = ts[i % ts.length]? := fun i => by rw [ht]; rfl
  have q0 : ts[0 % ts.length]? = some 3 := (key 0).symm.trans (by kernel_rfl)
  have q1 : ts[1 % ts.length]? = some 4 := (key 1).symm.trans (by kernel_rfl)
  have q2 : ts[2 % ts.length]? = some 3 := (key 2).symm.trans (by kernel_rfl)
  have q3 : ts[3 % ts.length]? = some 4 := (key 3).symm.trans (by kernel_rfl)
  obtain ⟨u0, e0, k0⟩ := row_cell ht hr 0 c0 rfl
  obtain rfl : 3 = u0 := Option.some.inj (q0.symm.trans e0)
  obtain ⟨x0, rfl, h0⟩ := cell_int Try.underlying3 k0
  obtain ⟨u1, e1, k1⟩ := row_cell ht hr 1 c1 rfl
  obtain rfl : 4 = u1 := Option.some.inj (q1.symm.trans e1)
  obtain ⟨b0, rfl⟩ := cell_bool Try.underlying4 k1
  obtain ⟨u2, e2, k2⟩ := row_cell ht hr 2 c2 rfl
  obtain rfl : 3 = u2 := Option.some.inj (q2.symm.trans e2)
  obtain ⟨x1, rfl, h1⟩ := cell_int Try.underlying3 k2
  obtain ⟨u3, e3, k3⟩ := row_cell ht hr 3 c3 rfl
  obtain rfl : 4 = u3 := Option.some.inj (q3.symm.trans e3)
  obtain ⟨b1, rfl⟩ := cell_bool Try.underlying4 k3
  exact ⟨x0, b0, x1, b1, rfl, has_in h0, has_in h1⟩
end Go.Proofs.Ytohpablkgfkelaa
