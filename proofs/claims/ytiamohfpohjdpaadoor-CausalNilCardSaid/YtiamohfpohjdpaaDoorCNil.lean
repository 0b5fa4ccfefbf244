/- CAUSAL, on no store: the walk. -/
import Derived.Test.YtiamohfpohjdpaaDoorCAlive
namespace Go.Proofs.YtiamohfpohjdpaaDoor
open Go.RowKit Go.Joins
set_option linter.unusedSimpArgs false
set_option linter.unusedVariables false
set_option maxHeartbeats 8000000 in
set_option maxRecDepth 100000 in
theorem cnil_walk (o : OpG) (v : V8) (n : Int) (w : World) : Calls Tryd.prog 7 #[o.val, v.val, .int .i64 n] w fun e w' => e = .returned (.bool true) ∧ Below w.heap.size w w' := by
  have AL := Lib.hid alive_any
  go_enter Tryd.func7, Tryd.ntmps7
  go_upto_region 1 with fail
  refine wp_let' (fun y => Below w.heap.size w y ∧ y.heap[w.heap.size]? = some (.cells o.cells 39 (0, 0)) ∧ y.heap[w.heap.size + 1]? = some (.cells (V8.rowV v).toArray 33 (0, 0))) ⟨((Below.refl _ _).alloc (Nat.le_refl _) _).alloc (by simp) _, blk_alloc (blk_new _ _), by have := blk_new (w.alloc (.cells o.cells 39)) (.cells (V8.rowV v).toArray 33); simpa using this⟩ (fun y hy => ?_)
  have HY := Lib.hid hy
  clear hy
  go_wp2_with (refine wpList_load_whole (.tmp 3) 39 rfl rfl w.heap.size o.cells rfl Tryd.underlying39 (by kernel_rfl) HY.out.2.1 ?_)
  with_reducible refine (addnil_any y o).mono ?_
  rintro e y1 ⟨rfl, hb⟩
  have H1 := Lib.hid hb
  clear hb
  go_wp2_with fail
  with_reducible refine (AL.out _).mono ?_
  rintro e y2 ⟨rfl, hb⟩
  have H2 := Lib.hid (H1.out.trans (hb.mono H1.out.size))
  clear hb H1
  have hev : ∀ y, (Op.equalIn 10000 33 (.agg #[.int .i64 0, .int .i64 0, .int .i64 0, .int .i64 0, .int .i64 0, .int .i64 0, .int .i64 0, .int .i64 0]) (.agg #[.int .i64 0, .int .i64 0, .int .i64 0, .int .i64 0, .int .i64 0, .int .i64 0, .int .i64 0, .int .i64 0])).run Tryd.prog y = .ok true y := fun y => (run_eqV ⟨0, 0, 0, 0, 0, 0, 0, 0⟩ ⟨0, 0, 0, 0, 0, 0, 0, 0⟩ y).trans rfl
  have hgd := run_guard
  have hbd := bldV0
  simp only [V8.zero] at hbd
  go_wp2_with fail
  with_reducible refine (knownnil_any y2).mono ?_
  rintro e y3 ⟨rfl, hb⟩
  have hb3 := H2.out.trans (hb.mono H2.out.size)
  have HV := Lib.hid ((hb3.block _ (heap_lt HY.out.2.2)).trans HY.out.2.2)
  have H3 := Lib.hid hb3
  simp only [V8.zero]
  clear hb hb3 H2
  go_wp2_with fail
  with_reducible refine (allnil_any y3).mono ?_
  rintro e y4 ⟨rfl, rfl⟩
  go_wp2_with fail
  with_reducible refine (pendingnil_any y4).mono ?_
  rintro e y5 ⟨rfl, rfl⟩
  have k0 : y5.cell? ⟨w.heap.size + 1, 0, none⟩ = some (.int .i64 v.x0) := blk_cell HV.out 0
  have k1 : y5.cell? ⟨w.heap.size + 1, 1, none⟩ = some (.int .i64 v.x1) := blk_cell HV.out 1
  have k2 : y5.cell? ⟨w.heap.size + 1, 2, none⟩ = some (.int .i64 v.x2) := blk_cell HV.out 2
  have k3 : y5.cell? ⟨w.heap.size + 1, 3, none⟩ = some (.int .i64 v.x3) := blk_cell HV.out 3
  have k4 : y5.cell? ⟨w.heap.size + 1, 4, none⟩ = some (.int .i64 v.x4) := blk_cell HV.out 4
  have k5 : y5.cell? ⟨w.heap.size + 1, 5, none⟩ = some (.int .i64 v.x5) := blk_cell HV.out 5
  have k6 : y5.cell? ⟨w.heap.size + 1, 6, none⟩ = some (.int .i64 v.x6) := blk_cell HV.out 6
  have k7 : y5.cell? ⟨w.heap.size + 1, 7, none⟩ = some (.int .i64 v.x7) := blk_cell HV.out 7
  go_wp2_with fail
  with_reducible refine (missingnil_any y5 v n).mono ?_
  rintro e y6 ⟨rfl, hb⟩
  have H6 := Lib.hid (HY.out.1.trans ((H3.out.trans (hb.mono H3.out.size)).mono HY.out.1.size))
  clear hb H3 k0 k1 k2 k3 k4 k5 k6 k7
  go_wp2
  go_ret
  exact ⟨rfl, H6.out⟩
end Go.Proofs.YtiamohfpohjdpaaDoor
