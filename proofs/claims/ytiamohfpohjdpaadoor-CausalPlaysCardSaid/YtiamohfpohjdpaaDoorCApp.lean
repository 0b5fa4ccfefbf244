/- APPEND, to a row of operations that is the call's own. -/
import Derived.Test.YtiamohfpohjdpaaDoorORows
import Derived.OwnWalk
import Derived.Laws.AppendOwnNone
import Derived.Laws.AppendOwn
namespace Go.Proofs.YtiamohfpohjdpaaDoor
open Go.RowKit Go.Joins
set_option linter.unusedSimpArgs false
set_option linter.unusedVariables false
theorem wp_appO {w : World} {o : Oper} {a : Act} {K : Act → World → Prop} {Q : Exit → Act → World → Prop} (s x : Operand)
    (ho : o.op = .call { callee := .builtin .append, args := #[s, x], argTypes := #[22, 22] }) (base : Nat) (v : Value) (L M : List OpG) (hs : a.eval s = v) (hown : OwnO w base v L)
    (ao : Option Addr) (c : Nat) (hx : a.eval x = .slice ao M.length c) (h0 : ao = none → c = 0) (hM : OpsAt w ao M) (hlen : L.length + M.length < 4294967296) (hbase : base ≤ w.heap.size)
    (h : ∀ v' w', OwnO w' base v' (L ++ M) → w.grownBy w' v.ownBlock → K (a.put o.dst v') w') : Oper.wp Tryd.prog o a w K Q := by
  obtain ⟨i0, hi, hz0, hz1, hz2⟩ := info_parts Slot.infoCO
  have hfin : ∀ v' w', w'.ownsRow base 39 26 v' (L.length + M.length) (cellsL L ++ cellsL M) → OwnO w' base v' (L ++ M) := fun v' w' h => by
    unfold OwnO
    rw [cellsL_append, List.length_append]
    exact h
  cases ao with
  | some ad =>
    exact wp_append_own w s x 22 ho base 39 i0 _ 26 _ Tryd.underlying22 hi hz0 hz1 hz2 rfl (by decide) v L.length (cellsL L) hs hown ad M.length c (cellsL M) hx (cellsL_length M) (fun j u hj => hM.cells ad rfl j u hj) (cellsL_one M)
      (by unfold maxLen; omega) (by omega) hbase fun v' w' h2 h3 _ => h v' w' (hfin v' w' h2) h3
  | none =>
    have hM0 : M = [] := by
      cases M with
      | nil => rfl
      | cons m M => obtain ⟨b, off, e, _⟩ := hM 0 m rfl; cases e
    subst hM0
    obtain rfl := h0 rfl
    have hrun := run_append_owned_none (P := Tryd.prog) (w := w) base 22 o.type 39 i0 26 Tryd.underlying22 hi v L.length (cellsL L) hown
    have hx' : a.eval x = .slice none 0 0 := hx
    unfold Oper.wp
    simp [execOp, ho, resolve, invoke, builtin, hs, hx', hrun, Result.andThen]
    exact h v w (by rw [List.append_nil]; exact hown) (World.grownBy.refl _ _)
theorem step_appO {ops : Array Oper} {w : World} {o : Oper} {a : Act} {K : Act → World → Prop} {Q : Exit → Act → World → Prop} {E : Prop} (hgd : o.guard = none) (s x : Operand)
    (ho : o.op = .call { callee := .builtin .append, args := #[s, x], argTypes := #[22, 22] }) (base : Nat) (v : Value) (L M : List OpG) (hs : a.eval s = v) (hown : OwnO w base v L)
    (ao : Option Addr) (c : Nat) (hx : a.eval x = .slice ao M.length c) (h0 : ao = none → c = 0) (hM : OpsAt w ao M) (hlen : L.length + M.length < 4294967296) (hbase : base ≤ w.heap.size)
    (h : ∀ v' w', OwnO w' base v' (L ++ M) → w.grownBy w' v.ownBlock → K (a.put o.dst v') w') : if Region.wanted o (yielded ops a.tmps) = true then Oper.wp Tryd.prog o a w K Q else E := by
  have hw : Region.wanted o (yielded ops a.tmps) = true := by simp [Region.wanted, hgd]
  rw [if_pos hw]
  exact wp_appO s x ho base v L M hs hown ao c hx h0 hM hlen hbase h
theorem wpList_appO {ops : Array Oper} {rest : List Oper} {w : World} {o : Oper} {a : Act} {Q : Exit → Act → World → Prop} (hgd : o.guard = none) (s x : Operand)
    (ho : o.op = .call { callee := .builtin .append, args := #[s, x], argTypes := #[22, 22] }) (base : Nat) (v : Value) (L M : List OpG) (hs : a.eval s = v) (hown : OwnO w base v L)
    (ao : Option Addr) (c : Nat) (hx : a.eval x = .slice ao M.length c) (h0 : ao = none → c = 0) (hM : OpsAt w ao M) (hlen : L.length + M.length < 4294967296) (hbase : base ≤ w.heap.size)
    (h : ∀ v' w', OwnO w' base v' (L ++ M) → w.grownBy w' v.ownBlock → wpList Tryd.prog ops Q rest (a.put o.dst v') w') : wpList Tryd.prog ops Q (o :: rest) a w :=
  wpList_plain hgd fun _ hK => wp_appO s x ho base v L M hs hown ao c hx h0 hM hlen hbase fun v' w' h1 h2 => hK _ _ (h v' w' h1 h2)
/-- one operation in a block of its own -/
theorem blk_one {w : World} {b : Nat} {o : OpG} (h : w.heap[b]? = some (.cells o.cells 39 (0, 0))) : OpsAt w (some ⟨b, 0, none⟩) [o] := fun i p hi => by
  cases i with
  | zero =>
    simp at hi
    subst hi
    exact ⟨b, 0, rfl, heap_lt h, fun j v hv => by rw [blk_cell h, Nat.zero_mul, Nat.zero_add]; exact hv⟩
  | succ i => simp at hi
theorem OwnO.grown {w w' : World} {base : Nat} {v u : Value} {L : List OpG} (h : OwnO w base v L) (g : w.grownBy w' u.ownBlock) (hne : ∀ b, v.ownBlock = some b → u.ownBlock ≠ some b) : OwnO w' base v L :=
  h.ch (Ch.of_grown g) (fun b hb e => hne b hb e.symm)
theorem quiet_loadS {P : Program} {o : Oper} {a : Act} {C : World → Prop} {K : Act → Prop} (p : Operand) (t : TypeId) (hop : o.op = Op.load t p) {b off : Nat} {cs : Array Value} {fs : Array Field} (hp : a.eval p = .pointer (some ⟨b, off, none⟩)) (hu : P.underlying t = some (.struct fs)) (hi : (P.info? t).map (·.size) = some cs.size)
    (hc : ∀ w, C w → ∀ (j : Nat) v, cs[j]? = some v → w.cell? ⟨b, off + j, none⟩ = some v) (hK : K (a.put o.dst (.agg cs))) : o.quiet P a C K :=
  ⟨.agg cs, fun w hw => by
    unfold Oper.quietAt
    rw [exec_load_at w p t hop hp hu hi (hc w hw)]
    exact ⟨rfl, rfl⟩, hK⟩
/-- a whole struct, loaded -/
theorem wp_loadS {P : Program} {o : Oper} {a : Act} {w : World} {K : Act → World → Prop} {Q : Exit → Act → World → Prop} (p : Operand) (t : TypeId) (hop : o.op = Op.load t p) (b off : Nat) (c : Array Value) {fs : Array Field}
    (hp : a.eval p = .pointer (some ⟨b, off, none⟩)) (hu : P.underlying t = some (.struct fs)) (hi : (P.info? t).map (·.size) = some c.size) (hc : ∀ (j : Nat) v, c[j]? = some v → w.cell? ⟨b, off + j, none⟩ = some v)
    (hK : K (a.put o.dst (.agg c)) w) : Oper.wp P o a w K Q := by
  have hrun := run_loadVar_at (P := P) w hu hi hc
  unfold Oper.wp
  simp [execOp, hop, hp, Instr.loadAt, Instr.sureAddr, hrun, Result.andThen]
  exact hK
theorem blk_load {w : World} {b : Nat} {c : Array Value} {T : TypeId} {fr : Nat × Nat} (h : w.heap[b]? = some (.cells c T fr)) : ∀ (j : Nat) v, c[j]? = some v → w.cell? ⟨b, 0 + j, none⟩ = some v := fun j v hv => by
  rw [blk_cell h, Nat.zero_add]; exact hv
theorem OwnO.at' {w : World} {base : Nat} {v : Value} {L : List OpG} (h : OwnO w base v L) : ∃ ao c, v = .slice ao L.length c ∧ (ao = none → c = 0) ∧ OpsAt w ao L := by
  rcases h.form with ⟨rfl, rfl⟩ | ⟨B, c, cur, rfl, hB, hb, hn, hc, hs, ht⟩
  · exact ⟨none, 0, rfl, fun _ => rfl, fun i o hi => by simp at hi⟩
  · exact ⟨_, c, rfl, (fun e => by cases e), blk_opsAt hb ht⟩
theorem OwnO.up {w : World} {base k : Nat} {v : Value} {L : List OpG} (h : OwnO w base v L) (hk : v.ownBlock = some k) : base ≤ k := by
  rcases h.form with ⟨rfl, rfl⟩ | ⟨B, cp, cur, rfl, hB, -⟩
  · cases hk
  · cases hk; exact hB
theorem grown_keep {W w1 : World} {v : Value} (g : W.grownBy w1 v.ownBlock) (b : Nat) (o : Obj) (h : W.heap[b]? = some o) (hne : v.ownBlock ≠ some b) : w1.heap[b]? = some o :=
  (Ch.of_grown g).at h (fun e => hne e.symm)
end Go.Proofs.YtiamohfpohjdpaaDoor
