/- GENERAL LAWS, of whatever program: rows of cells spliced: copy, told by blocks. -/
import Derived.Test.YtiamohfpohjdpaaDoorHeap
import Derived.Laws.IdiomCopy
import Derived.Laws.AppendOwn
import Derived.Lib.AppendZerosOnto
import Derived.Lib.Overlaps
import Derived.Laws.Externs
namespace Go.Proofs.YtiamohfpohjdpaaDoor
open Go.RowKit Go.Joins
set_option linter.unusedSimpArgs false
set_option linter.unusedVariables false

def splice (cur : Array Value) (o : Nat) (cs : List Value) : Array Value := (cur.toList.take o ++ cs ++ cur.toList.drop (o + cs.length)).toArray
theorem splice_size (cur : Array Value) (o : Nat) (cs : List Value) (h : o + cs.length ≤ cur.size) : (splice cur o cs).size = cur.size := by
  simp [splice]; omega
theorem splice_nil (cur : Array Value) (o : Nat) : splice cur o [] = cur := by
  simp [splice]
theorem splice_cons (cur : Array Value) (o : Nat) (v : Value) (cs : List Value) (h : o < cur.size) : splice (cur.setIfInBounds o v) (o + 1) cs = splice cur o (v :: cs) := by
  unfold splice
  congr 1
  rw [Array.toList_setIfInBounds]
  have hl : o < cur.toList.length := by simpa using h
  rw [List.take_set, List.drop_set]
  rw [if_pos (by omega : o < o + 1 + cs.length)]
  rw [List.take_succ_eq_append_getElem hl, List.set_append_right _ _ (by simp; omega)]
  have e : o - (cur.toList.take o).length = 0 := by simp; omega
  rw [e]
  simp
  omega
theorem blk_setCells {b : Nat} {T : TypeId} {fr : Nat × Nat} : ∀ (vs : List Value) (o : Nat) (w : World) (cur : Array Value), w.heap[b]? = some (.cells cur T fr) → o + vs.length ≤ cur.size →
    (w.setCells b o vs).heap[b]? = some (.cells (splice cur o vs) T fr)
  | [], o, w, cur, h, _ => by rw [splice_nil]; exact h
  | v :: vs, o, w, cur, h, hl => by
    simp only [List.length_cons] at hl
    rw [World.setCells, blk_setCells vs (o + 1) _ (cur.setIfInBounds o v) (blk_set h v) (by simp; omega), splice_cons cur o v vs (by omega)]
theorem ch_setCells (b : Nat) : ∀ (vs : List Value) (o : Nat) (w : World), Ch (fun x => x = b) w (w.setCells b o vs) ∧ (w.setCells b o vs).heap.size = w.heap.size
  | [], _, w => ⟨Ch.refl _ _, rfl⟩
  | v :: vs, o, w => by
    obtain ⟨h1, h2⟩ := ch_setCells b vs (o + 1) (w.setCell ⟨b, o, none⟩ v)
    rw [World.setCells]
    exact ⟨((Ch.refl (fun x => x = b) w).setCell _ _ (fun _ => rfl)).trans h1 (fun _ _ h => h), h2.trans (World.size_setCell _ _ _)⟩
theorem run_copy_blk {P : Program} (w : World) (dT sT ty e : TypeId) (s : Nat) (b o dLen dCap : Nat) (a : Addr) (sLen sCap : Nat) (cs : List Value) (cur : Array Value) (T : TypeId)
    (hu : P.underlying dT = some (.slice e)) (hs : (P.info? e).map (·.size) = some s) (hn : cs.length = Nat.min sLen dLen * s) (hb : w.heap[b]? = some (.cells cur T (0, 0))) (hfit : o + cs.length ≤ cur.size)
    (hsrc : ∀ j v, cs[j]? = some v → w.cell? (a.add j) = some v) (h1 : ∀ v ∈ cs, v.oneCell' = true) :
    ∃ w', (Builtin.copy_ #[dT, sT] ty #[.slice (some ⟨b, o, none⟩) dLen dCap, .slice (some a) sLen sCap]).run P w = .ok (.int .i64 ((Nat.min sLen dLen : Nat) : Int)) w' ∧ w'.heap[b]? = some (.cells (splice cur o cs) T (0, 0)) ∧
      Ch (fun x => x = b) w w' ∧ w'.heap.size = w.heap.size := by
  refine ⟨w.setCells b o cs, ?_, blk_setCells cs o w cur hb hfit, (ch_setCells b cs o w).1, (ch_setCells b cs o w).2⟩
  have hl := run_loadCells_list (P := P) w a cs hsrc
  have hst := run_storeCells_cells (P := P) b o cs 0 w (fun j hj => by rw [Nat.add_zero, blk_cell hb, Array.getElem?_eq_getElem (by omega)]; rfl) (fun j hj => blk_free hb _) h1
  rw [Nat.add_zero] at hst
  cases hq : P.info? e with
  | none => simp [hq] at hs
  | some i =>
    have hi : i.size = s := by simpa [hq] using hs
    simp [Builtin.copy_, run_underlying hu, Builtin.lenOf, Builtin.firstCells, sizeOf, typeInfo, hq, hi, ← hn, hl, hst, goInt]
/-- copy at the operation, its world under a letter -/
theorem wpList_copy_ex {P : Program} (w : World) {ops : Array Oper} {rest : List Oper} {o : Oper} {a : Act} {Q : Exit → Act → World → Prop} (hgd : o.guard = none) (d s : Operand) (t t' : TypeId)
    (ho : o.op = .call { callee := .builtin .copy, args := #[d, s], argTypes := #[t, t'] }) (v u : Value) (hd : a.eval d = v) (hs : a.eval s = u) {v' : Value} {R : World → Prop}
    (hr : ∃ w', (Builtin.copy_ #[t, t'] o.type #[v, u]).run P w = .ok v' w' ∧ R w') (h : ∀ w', R w' → wpList P ops Q rest (a.put o.dst v') w') : wpList P ops Q (o :: rest) a w := by
  obtain ⟨w', hrun, hR⟩ := hr
  refine wpList_plain hgd fun K hK => ?_
  unfold Oper.wp execOp
  simp only [ho, resolve, invoke, builtin, Sem.run_bind, Sem.run_pure, Result.andThen_ok, List.map_toArray, List.map_cons, List.map_nil, hd, hs, hrun]
  exact hK _ _ (h w' hR)
/-- .. as a step of a region that draws its order -/
theorem step_copy_ex {P : Program} {ops : Array Oper} {o : Oper} {a : Act} {w : World} {K : Act → World → Prop} {Q : Exit → Act → World → Prop} {E : Prop} (hg : o.guard = none) (d x : Operand) (dT sT : TypeId)
    (hop : o.op = Op.call { callee := Callee.builtin Builtin.copy, args := #[d, x], argTypes := #[dT, sT] }) (v u : Value) (hd : a.eval d = v) (hx : a.eval x = u) {v' : Value} {R : World → Prop}
    (hr : ∃ w', (Builtin.copy_ #[dT, sT] o.type #[v, u]).run P w = .ok v' w' ∧ R w') (hK : ∀ w', R w' → K (a.put o.dst v') w') : if Region.wanted o (yielded ops a.tmps) = true then Oper.wp P o a w K Q else E := by
  obtain ⟨w', hrun, hR⟩ := hr
  have hw : Region.wanted o (yielded ops a.tmps) = true := by simp [Region.wanted, hg]
  rw [if_pos hw]
  unfold Oper.wp
  simp [execOp, hop, resolve, invoke, builtin, hd, hx, hrun, Result.andThen]
  exact hK w' hR
/-- append at the operation, its world under a letter -/
theorem wpList_append_ex {P : Program} (w : World) {ops : Array Oper} {rest : List Oper} {o : Oper} {a : Act} {Q : Exit → Act → World → Prop} (hgd : o.guard = none) (d s : Operand) (t t' : TypeId)
    (ho : o.op = .call { callee := .builtin .append, args := #[d, s], argTypes := #[t, t'] }) (v u : Value) (hd : a.eval d = v) (hs : a.eval s = u) {v' : Value} {R : World → Prop}
    (hr : ∃ w', (Builtin.append_ #[t, t'] o.type #[v, u]).run P w = .ok v' w' ∧ R w') (h : ∀ w', R w' → wpList P ops Q rest (a.put o.dst v') w') : wpList P ops Q (o :: rest) a w := by
  obtain ⟨w', hrun, hR⟩ := hr
  refine wpList_plain hgd fun K hK => ?_
  unfold Oper.wp execOp
  simp only [ho, resolve, invoke, builtin, Sem.run_bind, Sem.run_pure, Result.andThen_ok, List.map_toArray, List.map_cons, List.map_nil, hd, hs, hrun]
  exact hK _ _ (h w' hR)
/-- a row into whose midst one element was put -/
theorem put_mid {cs xs : List Value} {row : Array Value} {m s : Nat} (hx : xs.length = s) (hm : m ≤ cs.length) (hr : row.toList.take m = cs.take m) (hl : cs.length + s ≤ row.size) :
    (splice (splice row m xs) (m + s) (cs.drop m)).toList.take (cs.length + s) = cs.take m ++ xs ++ cs.drop m ∧ (splice (splice row m xs) (m + s) (cs.drop m)).size = row.size := by
  have h1 : (splice row m xs).size = row.size := splice_size _ _ _ (by omega)
  have h2 : (splice (splice row m xs) (m + s) (cs.drop m)).size = row.size := (splice_size _ _ _ (by rw [h1, List.length_drop]; omega)).trans h1
  refine ⟨?_, h2⟩
  have e1 : (splice row m xs).toList.take (m + s) = cs.take m ++ xs := by
    unfold splice
    simp only [hr]
    have hlen : (cs.take m ++ xs).length = m + s := by simp [hx]; omega
    rw [List.take_append_of_le_length (by omega), List.take_of_length_le (by omega)]
  unfold splice at *
  simp only [e1]
  have hlen : (cs.take m ++ xs ++ cs.drop m).length = cs.length + s := by simp [hx]; omega
  rw [List.take_append_of_le_length (by omega), List.take_of_length_le (by omega)]
/-- .. in place: first what is behind is moved on -/
theorem put_room {cs xs : List Value} {row : Array Value} {m s : Nat} (hx : xs.length = s) (hm : m ≤ cs.length) (hr : row.toList.take cs.length = cs) (hl : cs.length + s ≤ row.size) :
    (splice (splice row (m + s) (cs.drop m)) m xs).toList.take (cs.length + s) = cs.take m ++ xs ++ cs.drop m ∧ (splice (splice row (m + s) (cs.drop m)) m xs).size = row.size := by
  have hrm : row.toList.take m = cs.take m := by
    rw [← hr, List.take_take]; congr 1; omega
  have h1 : (splice row (m + s) (cs.drop m)).size = row.size := splice_size _ _ _ (by rw [List.length_drop]; omega)
  refine ⟨?_, (splice_size _ _ _ (by rw [h1]; omega)).trans h1⟩
  have hl2 : row.toList.length = row.size := by simp
  have e2 : (splice row (m + s) (cs.drop m)).toList = row.toList.take (m + s) ++ cs.drop m ++ row.toList.drop (m + s + (cs.drop m).length) := by simp [splice]
  have e1 : (splice row (m + s) (cs.drop m)).toList.take m = cs.take m := by
    rw [e2, List.append_assoc, List.take_append_of_le_length (by simp; omega), List.take_take, ← hrm]
    congr 1; omega
  have e3 : (splice row (m + s) (cs.drop m)).toList.drop (m + xs.length) = cs.drop m ++ row.toList.drop (m + s + (cs.drop m).length) := by
    rw [e2, List.append_assoc, List.drop_append_of_le_length (by simp; omega), List.drop_take, hx]
    rw [show m + s - (m + s) = 0 by omega]
    simp
  have e4 : (splice (splice row (m + s) (cs.drop m)) m xs).toList = cs.take m ++ xs ++ (cs.drop m ++ row.toList.drop (m + s + (cs.drop m).length)) := by
    rw [← e1, ← e3]; simp [splice]
  rw [e4, ← List.append_assoc]
  have hlen : (cs.take m ++ xs ++ cs.drop m).length = cs.length + s := by simp [hx]; omega
  rw [List.take_append_of_le_length (by omega), List.take_of_length_le (by omega)]
/-! ### pointers held against each other -/
theorem run_sameAddr {P : Program} {w : World} {b1 b2 : Nat} {c1 c2 : Array Value} {T1 T2 : TypeId} (h1 : w.heap[b1]? = some (.cells c1 T1 (0, 0))) (h2 : w.heap[b2]? = some (.cells c2 T2 (0, 0))) :
    (sameAddr ⟨b1, 0, none⟩ ⟨b2, 0, none⟩).run P w = .ok (decide (b1 = b2)) w := by
  unfold sameAddr
  by_cases h : b1 = b2
  · subst h; simp
  · have hb : (b1 == b2) = false := by simpa using h
    have f1 : w.frozen? ⟨b1, 0, none⟩ = false := blk_free h1 0
    have f2 : w.frozen? ⟨b2, 0, none⟩ = false := blk_free h2 0
    have g1 : ∀ n, w.frozen? ⟨b1, n, none⟩ = false := blk_free h1
    have g2 : ∀ n, w.frozen? ⟨b2, n, none⟩ = false := blk_free h2
    have s1 : w.shape? b1 = some (T1, c1.size) := by simp [World.shape?, h1]
    have s2 : w.shape? b2 = some (T2, c2.size) := by simp [World.shape?, h2]
    simp [hb, h, frozen, noView, viewAt, mayBeOne, stringish, shape, Sem.run, f1, f2, g1, g2, s1, s2]
theorem run_eql_ptr {P : Program} {w : World} {t e : TypeId} {i : TypeInfo} (ht : P.underlying t = some (.pointer e)) (hi : P.info? e = some i) (hs : ¬ P.cellsOf e = 0) {b1 b2 : Nat} {c1 c2 : Array Value} {T1 T2 : TypeId} (h1 : w.heap[b1]? = some (.cells c1 T1 (0, 0))) (h2 : w.heap[b2]? = some (.cells c2 T2 (0, 0))) :
    (binOp .eql t (.pointer (some ⟨b1, 0, none⟩)) (.pointer (some ⟨b2, 0, none⟩))).run P w = .ok (.bool (decide (b1 = b2))) w := by
  have key : (Op.equal t (.pointer (some ⟨b1, 0, none⟩)) (.pointer (some ⟨b2, 0, none⟩))).run P w = .ok (decide (b1 = b2)) w := by
    show (Op.equalIn (9999 + 1) t _ _).run P w = _
    generalize 9999 = d
    rw [Op.equalIn]
    simp only [Sem.run_bind, run_underlying ht, Result.andThen_ok, run_sizeOf _ hi, ne_eq]
    rw [if_pos hs, run_sameAddr h1 h2]
  simp [binOp, key]
end Go.Proofs.YtiamohfpohjdpaaDoor
