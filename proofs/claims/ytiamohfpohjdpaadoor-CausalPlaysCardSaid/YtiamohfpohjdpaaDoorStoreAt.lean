/- WHOLE STRUCTS LOADED FROM, AND STORED AT, A PLACE WITHIN A BLOCK: general, of whatever program. -/
import Derived.Test.YtiamohfpohjdpaaDoorRow
import Derived.Test.YtiamohfpohjdpaaDoorStore
import Derived.Deep.RegionHeld3
namespace Go.Proofs.YtiamohfpohjdpaaDoor
open Go.RowKit Go.Joins
set_option linter.unusedSimpArgs false
set_option linter.unusedVariables false
section
variable {P : Program}
theorem run_loadVar_at (w : World) {b off : Nat} {t : TypeId} {cs : Array Value} {fs : Array Field} (hu : P.underlying t = some (.struct fs)) (hi : (P.info? t).map (·.size) = some cs.size)
    (hc : ∀ (j : Nat) v, cs[j]? = some v → w.cell? ⟨b, off + j, none⟩ = some v) : (loadVar t ⟨b, off, none⟩).run P w = .ok (.agg cs) w := by
  have hl : (loadCells ⟨b, off, none⟩ cs.toList.length).run P w = .ok cs.toList.toArray w :=
    run_loadCells_list (P := P) w ⟨b, off, none⟩ cs.toList (fun j v hv => by
      have hadd : (⟨b, off, none⟩ : Addr).add j = ⟨b, off + j, none⟩ := by unfold Addr.add; split <;> simp_all
      rw [hadd]
      exact hc j v (by simpa using hv))
  cases hq : P.info? t with
  | none => simp [hq] at hi
  | some i =>
    have hs : i.size = cs.size := by simpa [hq] using hi
    have hagg : (isAgg t).run P w = .ok true w := by
      unfold isAgg
      rw [Sem.run_bind, run_underlying hu w]
      simp [Result.andThen, Sem.run_pure]
    unfold loadVar
    rw [Sem.run_bind, hagg]
    have hcell : P.cellsOf t = cs.toList.length := by simp [Program.cellsOf, hq, hs]
    simp only [Result.andThen_ok, if_true, Sem.run_bind, run_sizeOf _ hq]
    rw [hcell, hl]
    simp [Sem.run_pure]
theorem run_storeVar_at (w : World) {b off : Nat} {t T : TypeId} {cs cur : Array Value} (hb : w.heap[b]? = some (.cells cur T (0, 0))) (hfit : off + cs.size ≤ cur.size) (hi : (P.info? t).map (·.size) = some cs.size) (h1 : ∀ v ∈ cs.toList, v.oneCell' = true) :
    (storeVar t ⟨b, off, none⟩ (.agg cs)).run P w = .ok () (w.setCells b off cs.toList) := by
  have hst := run_storeCells_cells (P := P) b off cs.toList 0 w (fun j hj => by
      rw [Nat.add_zero, blk_cell hb, Array.getElem?_eq_getElem (by simp at hj; omega)]; rfl) (fun j hj => blk_free hb _) h1
  rw [Nat.add_zero] at hst
  cases hq : P.info? t with
  | none => simp [hq] at hi
  | some i =>
    have hs : i.size = cs.size := by simpa [hq] using hi
    have hcell : P.cellsOf t = cs.size := by simp [Program.cellsOf, hq, hs]
    simp [storeVar, Sem.run_bind, run_sizeOf _ hq, hcell, Value.cells, hst]
theorem setCells_block {w : World} {b off : Nat} {T : TypeId} {vs : List Value} {cur : Array Value} (hb : w.heap[b]? = some (.cells cur T (0, 0))) (hfit : off + vs.length ≤ cur.size) :
    (w.setCells b off vs).heap[b]? = some (.cells (splice cur off vs) T (0, 0)) ∧ Ch (fun x => x = b) w (w.setCells b off vs) ∧ (w.setCells b off vs).heap.size = w.heap.size :=
  ⟨blk_setCells vs off w cur hb hfit, (ch_setCells b vs off w).1, (ch_setCells b vs off w).2⟩
/-- the load, carried out -/
theorem exec_load_at (w : World) {o : Oper} {e : Operand → Value} (p : Operand) (t : TypeId) (hop : o.op = Op.load t p) {b off : Nat} {cs : Array Value} {fs : Array Field} (hp : e p = .pointer (some ⟨b, off, none⟩)) (hu : P.underlying t = some (.struct fs)) (hi : (P.info? t).map (·.size) = some cs.size)
    (hc : ∀ (j : Nat) v, cs[j]? = some v → w.cell? ⟨b, off + j, none⟩ = some v) : (execOp e o).run P w = .ok (.value (.agg cs)) w := by
  have hrun := run_loadVar_at w hu hi hc
  unfold execOp
  simp only [hop, hp, Instr.loadAt, Instr.sureAddr, Sem.run_bind, Sem.run_pure, Result.andThen_ok, hrun]
theorem wpList_load_at {w : World} {ops : Array Oper} {rest : List Oper} {o : Oper} {a : Act} {Q : Exit → Act → World → Prop} (p : Operand) (t : TypeId) (hop : o.op = Op.load t p) (hg : Region.wanted o (yielded ops a.tmps) = true) (b off : Nat) (c : Array Value) {fs : Array Field}
    (hp : a.eval p = .pointer (some ⟨b, off, none⟩)) (hu : P.underlying t = some (.struct fs)) (hi : (P.info? t).map (·.size) = some c.size) (hc : ∀ (j : Nat) v, c[j]? = some v → w.cell? ⟨b, off + j, none⟩ = some v)
    (hK : wpList P ops Q rest (a.put o.dst (.agg c)) w) : wpList P ops Q (o :: rest) a w := by
  refine BigFrame.wpList_want hg fun K' hK' => ?_
  have hrun := run_loadVar_at (P := P) w hu hi hc
  unfold Oper.wp
  simp [execOp, hop, hp, Instr.loadAt, Instr.sureAddr, hrun, Result.andThen]
  exact hK' _ _ hK
theorem wpList_store_at {w : World} {ops : Array Oper} {rest : List Oper} {o : Oper} {a : Act} {Q : Exit → Act → World → Prop} (hg : o.guard = none) (p x : Operand) (t : TypeId) (hop : o.op = Op.store t p x) (b off : Nat) (cs cur : Array Value) {T : TypeId}
    (hp : a.eval p = .pointer (some ⟨b, off, none⟩)) (hx : a.eval x = .agg cs) (hb : w.heap[b]? = some (.cells cur T (0, 0))) (hfit : off + cs.size ≤ cur.size) (hi : (P.info? t).map (·.size) = some cs.size) (h1 : ∀ v ∈ cs.toList, v.oneCell' = true)
    (hK : ∀ w', Ch (fun x => x = b) w w' → w'.heap[b]? = some (.cells (splice cur off cs.toList) T (0, 0)) → w'.heap.size = w.heap.size → wpList P ops Q rest (a.put o.dst undef) w') : wpList P ops Q (o :: rest) a w := by
  refine wpList_plain hg fun K' hK' => ?_
  have hrun := run_storeVar_at (P := P) w hb hfit hi h1
  obtain ⟨k1, k2, k3⟩ := setCells_block (vs := cs.toList) hb (by simpa using hfit)
  unfold Oper.wp
  simp [execOp, hop, hp, hx, Instr.storeAt, Instr.sureAddr, hrun, Result.andThen]
  exact hK' _ _ (hK _ k2 k1 k3)
/-- .. as a step of a region that draws its order -/
theorem step_store_at {ops : Array Oper} {o : Oper} {a : Act} {w : World} {K : Act → World → Prop} {Q : Exit → Act → World → Prop} {E : Prop} (hg : o.guard = none) (p x : Operand) (t : TypeId) (hop : o.op = Op.store t p x) (b off : Nat) (cs cur : Array Value) {T : TypeId}
    (hp : a.eval p = .pointer (some ⟨b, off, none⟩)) (hx : a.eval x = .agg cs) (hb : w.heap[b]? = some (.cells cur T (0, 0))) (hfit : off + cs.size ≤ cur.size) (hi : (P.info? t).map (·.size) = some cs.size) (h1 : ∀ v ∈ cs.toList, v.oneCell' = true)
    (hK : ∀ w', Ch (fun x => x = b) w w' → w'.heap[b]? = some (.cells (splice cur off cs.toList) T (0, 0)) → w'.heap.size = w.heap.size → K (a.put o.dst undef) w') : if Region.wanted o (yielded ops a.tmps) = true then Oper.wp P o a w K Q else E := by
  have hw : Region.wanted o (yielded ops a.tmps) = true := by simp [Region.wanted, hg]
  rw [if_pos hw]
  have hrun := run_storeVar_at (P := P) w hb hfit hi h1
  obtain ⟨k1, k2, k3⟩ := setCells_block (vs := cs.toList) hb (by simpa using hfit)
  unfold Oper.wp
  simp [execOp, hop, hp, hx, Instr.storeAt, Instr.sureAddr, hrun, Result.andThen]
  exact hK _ k2 k1 k3
end
end Go.Proofs.YtiamohfpohjdpaaDoor
