/- WHOLE STRUCTS LOADED AND STORED AT ONE GO: general, of whatever program. -/
import Derived.Test.YtiamohfpohjdpaaDoorHeap
import Derived.Deep.WholeRow
import Derived.Laws.Tables
import Derived.BigFrame
namespace Go.Proofs.YtiamohfpohjdpaaDoor
open Go.RowKit
theorem wpList_store_fresh {P : Program} {W : World} {ops : Array Oper} {rest : List Oper} {o : Oper} {a : Act} {Q : Exit → Act → World → Prop} (hg : o.guard = none) (p x : Operand) (t : TypeId) (hop : o.op = Op.store t p x) (n : Nat) (c c' : Array Value)
    (hp : a.eval p = .pointer (some ⟨n, 0, none⟩)) (hn : n = W.heap.size) (hx : a.eval x = .agg c') (hi : (P.info? t).map (·.size) = some c'.size) (ho : c.size = c'.size) (h1 : c'.all (·.oneCell') = true)
    (hK : wpList P ops Q rest (a.put o.dst undef) (W.alloc (.cells c' t))) : wpList P ops Q (o :: rest) a (W.alloc (.cells c t)) := by
  refine wpList_plain hg fun K' hK' => ?_
  subst hn
  have hrun := run_storeAt_new (P := P) W t c c' hi ho h1
  unfold Oper.wp
  simp [execOp, hop, hp, hx, hrun, Result.andThen]
  exact hK' _ _ hK
/-- a whole struct loaded from its block -/
theorem run_loadAt_whole {P : Program} {w : World} {t t' : TypeId} {fs : Array Field} {b : Nat} {c : Array Value} {fr : Nat × Nat} (hu : P.underlying t = some (.struct fs)) (hi : (P.info? t).map (·.size) = some c.size) (hb : w.heap[b]? = some (.cells c t' fr)) :
    (Instr.loadAt t (.pointer (some ⟨b, 0, none⟩))).run P w = .ok (.agg c) w := by
  simp only [Instr.loadAt, Instr.sureAddr, Sem.run_bind, Sem.run_pure, Result.andThen]
  exact run_loadVar_row w b t' t c fr _ hb hu rfl hi
theorem wpList_load_whole {P : Program} {w : World} {ops : Array Oper} {rest : List Oper} {o : Oper} {a : Act} {Q : Exit → Act → World → Prop} (p : Operand) (t : TypeId) (hop : o.op = Op.load t p) (hg : Region.wanted o (yielded ops a.tmps) = true) (b : Nat) (c : Array Value) {t' : TypeId} {fr : Nat × Nat} {fs : Array Field}
    (hp : a.eval p = .pointer (some ⟨b, 0, none⟩)) (hu : P.underlying t = some (.struct fs)) (hi : (P.info? t).map (·.size) = some c.size) (hb : w.heap[b]? = some (.cells c t' fr))
    (hK : wpList P ops Q rest (a.put o.dst (.agg c)) w) : wpList P ops Q (o :: rest) a w := by
  refine BigFrame.wpList_want hg fun K' hK' => ?_
  have hrun := run_loadAt_whole (P := P) (w := w) hu hi hb
  unfold Oper.wp
  simp [execOp, hop, hp, hrun, Result.andThen]
  exact hK' _ _ hK
theorem setRow_block {w : World} {b : Nat} {c c' : Array Value} {t : TypeId} (hb : w.heap[b]? = some (.cells c t (0, 0))) : Ch (fun x => x = b) w (w.setRow b c') ∧ (w.setRow b c').heap[b]? = some (.cells c' t (0, 0)) := by
  refine ⟨⟨rfl, rfl, rfl, by simp [World.setRow], fun k hk hn => ?_⟩, ?_⟩
  · simp only [World.setRow]
    rw [Array.getElem?_modify, if_neg (fun e => hn e.symm)]
  · simp only [World.setRow]
    rw [Array.getElem?_modify, if_pos rfl, hb]
    rfl
/-- a whole struct stored into a block that stands -/
theorem wpList_store_row {P : Program} {w : World} {ops : Array Oper} {rest : List Oper} {o : Oper} {a : Act} {Q : Exit → Act → World → Prop} (hg : o.guard = none) (p x : Operand) (t : TypeId) (hop : o.op = Op.store t p x) (b : Nat) (c c' : Array Value) {t' : TypeId}
    (hp : a.eval p = .pointer (some ⟨b, 0, none⟩)) (hx : a.eval x = .agg c') (hb : w.heap[b]? = some (.cells c t' (0, 0))) (hi : (P.info? t).map (·.size) = some c'.size) (ho : c.size = c'.size) (h1 : c'.all (·.oneCell') = true)
    (hK : ∀ w', Ch (fun x => x = b) w w' → w'.heap[b]? = some (.cells c' t' (0, 0)) → wpList P ops Q rest (a.put o.dst undef) w') : wpList P ops Q (o :: rest) a w := by
  refine wpList_plain hg fun K' hK' => ?_
  have hrun : (Instr.storeAt t (.pointer (some ⟨b, 0, none⟩)) (.agg c')).run P w = .ok () (w.setRow b c') := by
    simp only [Instr.storeAt, Instr.sureAddr, Sem.run_bind, Sem.run_pure, Result.andThen]
    exact run_storeVar_row w b t' t c c' hb hi ho h1
  unfold Oper.wp
  simp [execOp, hop, hp, hx, hrun, Result.andThen]
  exact hK' _ _ (hK _ (setRow_block hb).1 (setRow_block hb).2)
end Go.Proofs.YtiamohfpohjdpaaDoor
