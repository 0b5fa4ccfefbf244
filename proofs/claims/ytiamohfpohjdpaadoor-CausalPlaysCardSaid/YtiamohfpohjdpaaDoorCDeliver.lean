/- A STORE OF OPERATIONS: deliver. -/
import Derived.Test.YtiamohfpohjdpaaDoorCReady
import Derived.Deep.RegionLaw
import Derived.Deep.AppendLies
import Derived.Deep.DeepCutAuto
import Derived.Deep.RegionHeld3
import Derived.Test.YtiamohfpohjdpaaDoorInv
namespace Go.Proofs.YtiamohfpohjdpaaDoor
open Go.RowKit Go.Joins
set_option linter.unusedSimpArgs false
set_option linter.unusedVariables false

/-! ### whole operations within a drawn region -/
theorem step_loadO {ops : Array Oper} {w : World} {o : Oper} {a : Act} {K : Act → World → Prop} {Q : Exit → Act → World → Prop} {E : Prop} (hgd : o.guard = none) (p : Operand) (hop : o.op = Op.load 39 p) (b : Nat) (u : OpG) (hp : a.eval p = .pointer (some ⟨b, 0, none⟩))
    (hb : w.heap[b]? = some (.cells u.cells 39 (0, 0))) (hK : K (a.put o.dst u.val) w) : if Region.wanted o (yielded ops a.tmps) = true then Oper.wp Tryd.prog o a w K Q else E := by
  have hw : Region.wanted o (yielded ops a.tmps) = true := by simp [Region.wanted, hgd]
  rw [if_pos hw]
  exact wp_loadS p 39 hop b 0 u.cells hp Tryd.underlying39 (by kernel_rfl) (blk_load hb) hK
theorem run_bsO (o : OpG) (y : World) : (Instr.buildSlice 22 1 #[(0, o.val)]).run Tryd.prog y = .ok (.slice (some ⟨y.heap.size, 0, none⟩) 1 1) (y.alloc (.cells o.cells 39)) := by kernel_rfl
theorem step_bsO {ops : Array Oper} {w : World} {o : Oper} {a : Act} {K : Act → World → Prop} {Q : Exit → Act → World → Prop} {E : Prop} (hgd : o.guard = none) (p : Operand) (hop : o.op = Op.buildSlice 22 1 #[(0, p)]) (u : OpG) (hp : a.eval p = u.val)
    (hK : K (a.put o.dst (.slice (some ⟨w.heap.size, 0, none⟩) 1 1)) (w.alloc (.cells u.cells 39))) : if Region.wanted o (yielded ops a.tmps) = true then Oper.wp Tryd.prog o a w K Q else E := by
  have hw : Region.wanted o (yielded ops a.tmps) = true := by simp [Region.wanted, hgd]
  rw [if_pos hw]
  unfold Oper.wp
  have hr : (Instr.buildSlice 22 1 #[(0, a.eval p)]).run Tryd.prog w = .ok (.slice (some ⟨w.heap.size, 0, none⟩) 1 1) (w.alloc (.cells u.cells 39)) := by rw [hp]; exact run_bsO u w
  have e : ((execOp a.eval o).run Tryd.prog w) = .ok (.value (.slice (some ⟨w.heap.size, 0, none⟩) 1 1)) (w.alloc (.cells u.cells 39)) := by
    simp [execOp, hop, hr, Result.andThen]
  rw [e]
  exact hK
/-- an operation put behind a row: where the new row lies -/
theorem wp_appL {w : World} {o : Oper} {a : Act} {K : Act → World → Prop} {Q : Exit → Act → World → Prop} (s x : Operand)
    (ho : o.op = .call { callee := .builtin .append, args := #[s, x], argTypes := #[22, 22] }) (base : Nat) (v : Value) (L : List OpG) (u : OpG) (hs : a.eval s = v) (hown : OwnO w base v L)
    (B : Nat) (hx : a.eval x = .slice (some ⟨B, 0, none⟩) 1 1) (hB : w.heap[B]? = some (.cells u.cells 39 (0, 0))) (hlen : L.length + 1 < 4294967296) (hbase : base ≤ w.heap.size)
    (h : ∀ g cap w', OwnO w' base (.slice (some ⟨g, 0, none⟩) (L.length + 1) cap) (L ++ [u]) → w.grownBy w' v.ownBlock → (v.ownBlock = some g ∨ g = w.heap.size) → K (a.put o.dst (.slice (some ⟨g, 0, none⟩) (L.length + 1) cap)) w') : Oper.wp Tryd.prog o a w K Q := by
  obtain ⟨i0, hi, hz0, hz1, hz2⟩ := info_parts Slot.infoCO
  exact wp_append_lies w s x 22 ho base 39 i0 _ 26 _ Tryd.underlying22 hi hz0 hz1 hz2 rfl (by decide) v L.length (cellsL L) hs hown ⟨B, 0, none⟩ 1 1 (cellsL [u]) hx (cellsL_length [u])
    (fun j x hj => (blk_one hB).cells ⟨B, 0, none⟩ rfl j x hj) (cellsL_one [u]) (by decide) (by unfold maxLen; omega) (by omega) hbase _ rfl fun g cap w' h2 h3 h4 _ => h g cap w' (by
      unfold OwnO
      rw [cellsL_append, List.length_append]
      exact h2) h3 h4
theorem MapIs.block {K : Type} [DecidableEq K] {w : World} {b : Nat} {enc : K → Value} {f : K → Option Value} {n : Nat} (h : MapIs w b enc f n) : ∃ es c, w.heap[b]? = some (.map es c) := by
  obtain ⟨es, clock, L, hb, _⟩ := h
  exact ⟨es, clock, hb⟩
/-! ### a drawn region in which an operation is put behind a row -/
section
variable {P : Program} {Q : Exit → Act → World → Prop}
theorem step_nil {ops : Array Oper} {o : Oper} {a : Act} {w : World} {K : Act → World → Prop} {ad : Addr} (hg : o.guard = none) (p : Operand) (ho : o.op = .nilCheck p) (hp : a.eval p = .pointer (some ad)) (hK : K (a.put o.dst (.pointer (some ad))) w) : stepWp P Q ops o a w K := by
  refine step_wp hg ?_
  unfold Oper.wp
  simp [execOp, ho, hp]
  exact hK
theorem step_field {ops : Array Oper} {o : Oper} {a : Act} {w : World} {K : Act → World → Prop} {t : TypeId} {f : Nat} {u v : Value} (hg : o.guard = none) (p : Operand) (ho : o.op = .fieldAddr t p f) (hp : a.eval p = u) (h : (Instr.fieldAt t u f).run P w = .ok v w) (hK : K (a.put o.dst v) w) : stepWp P Q ops o a w K := by
  subst hp
  refine step_wp hg ?_
  unfold Oper.wp
  have e : ((execOp a.eval o).run P w) = .ok (.value v) w := by
    simp [execOp, ho, h, Result.andThen]
  rw [e]
  exact hK
theorem step_store1 {ops : Array Oper} {o : Oper} {a : Act} {w w' : World} {K : Act → World → Prop} {t : TypeId} {u v : Value} (hg : o.guard = none) (p x : Operand) (ho : o.op = .store t p x) (hp : a.eval p = u) (hx : a.eval x = v) (h : (Instr.storeAt t u v).run P w = .ok () w') (hK : K (a.put o.dst undef) w') : stepWp P Q ops o a w K := by
  subst hp
  subst hx
  refine step_wp hg ?_
  unfold Oper.wp
  simp [execOp, ho, h, Result.andThen]
  exact hK
end
section
variable {P : Program} {Q : Exit → Act → World → Prop}
theorem step_call {ops : Array Oper} {o : Oper} {a : Act} {w : World} {K : Act → World → Prop} {f : Nat} {args : Array Operand} {ts : Array TypeId} {vs : List Value} {R : Ending → World → Prop} (hg : o.guard = none) (ho : o.op = .call { callee := .value (.func f), args := args, argTypes := ts }) (ha : args.toList.map a.eval = vs)
    (eg : ∀ args w, (callFunc f args).run P w = .ok (.enter f args) w) (H : Calls P f vs.toArray w R) (hK : ∀ e w', R e w' → ∃ v, e = .returned v ∧ K (a.put o.dst v) w') : stepWp P Q ops o a w K := by
  refine step_wp hg ?_
  have ha2 : args.map a.eval = vs.toArray := by
    apply Array.ext'
    rw [Array.toList_map, ha]
  have e : ((execOp a.eval o).run P w) = .ok (.enter f vs.toArray) w := by
    have h3 := eg vs.toArray w
    simp [execOp, ho, resolve, invoke, Act.eval, Result.andThen, Deferred.ofValue]
    rw [ha2]
    simpa using h3
  unfold Oper.wp
  rw [e, Oper.upon_enter]
  refine H.mono ?_
  intro e w' h
  obtain ⟨v, rfl, hk⟩ := hK e w' h
  exact hk
end
/-- a drawn region of which one operation, N, alone turns what was there; N - 2 and N - 1 (the place of the store) come right ahead of it -/
structure RV (vals : Nat → Value) (P0 Pf : World → Prop) (N : Nat) (D : Nat → Bool) (x : Nat → Value) (y : World) : Prop where
  v : ∀ i, i < N → D i = true → x i = vals i
  p : D N = false → P0 y
  f : D N = true → Pf y
  n : D N = true → ∀ i, i < N → D i = true
  m : D (N - 1) = true → D (N - 2) = true
theorem RV.keep {vals : Nat → Value} {P0 Pf : World → Prop} {N : Nat} {D : Nat → Bool} {x : Nat → Value} {y z : World} (h : RV vals P0 Pf N D x y) {i : Nat} (hi : i < N) (hD : D i = false) (hm : i = N - 1 → D (N - 2) = true) (hP : P0 y → P0 z) : RV vals P0 Pf N (done D i) (setX x i (vals i)) z := by
  have hN : D N = false := by
    cases e : D N with
    | false => rfl
    | true => have := h.n e i hi; rw [hD] at this; cases this
  refine ⟨fun j hj hd => ?_, fun hd => hP (h.p hN), fun hd => ?_, fun hd => ?_, fun hd => ?_⟩
  · by_cases e : j = i
    · subst e; simp [setX]
    · simp [done, e] at hd
      simp [setX, e]
      exact h.v j hj hd
  · simp [done, show N ≠ i by omega, hN] at hd
  · simp [done, show N ≠ i by omega, hN] at hd
  · by_cases e2 : N - 2 = i
    · simp [done, e2]
    · by_cases e1 : N - 1 = i
      · simp [done, e2]
        exact hm e1.symm
      · simp [done, e1] at hd
        simp [done, e2]
        exact h.m hd
theorem RV.last {vals : Nat → Value} {P0 Pf : World → Prop} {N : Nat} {D : Nat → Bool} {x : Nat → Value} {y z : World} {u : Value} (h : RV vals P0 Pf N D x y) (hD : ∀ i, i < N - 2 → D i = true) (h1 : D (N - 1) = true) (hN : 2 ≤ N) (hP : Pf z) : RV vals P0 Pf N (done D N) (setX x N u) z := by
  refine ⟨fun j hj hd => ?_, fun hd => ?_, fun hd => hP, fun _ j hj => ?_, fun _ => ?_⟩
  · simp [done, show j ≠ N by omega] at hd
    simp [setX, show j ≠ N by omega]
    exact h.v j hj hd
  · simp [done] at hd
  · simp only [done, if_neg (show ¬ j = N by omega)]
    by_cases e1 : j = N - 1
    · rw [e1]; exact h1
    · by_cases e2 : j = N - 2
      · rw [e2]; exact h.m h1
      · exact hD j (by omega)
  · simp only [done, if_neg (show ¬ N - 2 = N by omega)]
    exact h.m h1
theorem run_storeO (w : World) {b i : Nat} {cs : Array Value} {T : TypeId} {ao : Option Addr} {n c : Nat} (hb : w.heap[b]? = some (.cells cs T (0, 0))) (hi : i < cs.size) :
    (Instr.storeAt 22 (.pointer (some ⟨b, i, none⟩)) (.slice ao n c)).run Tryd.prog w = .ok () (w.setCell ⟨b, i, none⟩ (.slice ao n c)) := by
  have hc : w.cell? ⟨b, i, none⟩ = some cs[i] := by rw [blk_cell hb, Array.getElem?_eq_getElem hi]
  have hf := blk_free hb i
  simp [go_sem, hc, hf]
theorem run_loadS1 {w : World} {b i : Nat} {v : Value} (hc : w.cell? ⟨b, i, none⟩ = some v) : (Instr.loadAt 22 (.pointer (some ⟨b, i, none⟩))).run Tryd.prog w = .ok v w := by
  simp [go_sem, hc]
theorem done_ne {D : Nat → Bool} {i j : Nat} (h : j ≠ i) : done D i j = D j := by simp [done, h]
theorem done_eq (D : Nat → Bool) (i : Nat) : done D i i = true := by simp [done]
theorem setX_ne {x : Nat → Value} {i j : Nat} {v : Value} (h : j ≠ i) : setX x i v j = x j := by simp [setX, h]
theorem setX_eq (x : Nat → Value) (i : Nat) (v : Value) : setX x i v i = v := by simp [setX]
/-- what has been done so far: vals: the values of the operations 0 to 5; 6: the operation's own block; 7: the append; M: what holds behind it -/
structure RA (vals : Nat → Value) (P0 : World → Prop) (o : OpG) (M : (Nat → Bool) → (Nat → Value) → World → Prop) (D : Nat → Bool) (x : Nat → Value) (y : World) : Prop where
  v : ∀ i, i < 6 → D i = true → x i = vals i
  p : D 7 = false → P0 y
  s : D 6 = true → D 7 = false → ∃ B, x 6 = .slice (some ⟨B, 0, none⟩) 1 1 ∧ y.heap[B]? = some (.cells o.cells 39 (0, 0))
  a : D 7 = true → M D x y
  q : D 7 = false → D 8 = false ∧ D 9 = false ∧ D 10 = false ∧ D 11 = false
  five : D 6 = true → D 5 = true
theorem RA.keep {vals : Nat → Value} {P0 : World → Prop} {o : OpG} {M : (Nat → Bool) → (Nat → Value) → World → Prop} {D : Nat → Bool} {x : Nat → Value} {y : World} (h : RA vals P0 o M D x y) {i : Nat} (hi : i < 6) (hM : M D x y → M (done D i) (setX x i (vals i)) y) : RA vals P0 o M (done D i) (setX x i (vals i)) y := by
  refine ⟨fun j hj hd => ?_, fun hd => h.p (by rwa [done_ne (by omega)] at hd), fun h1 h2 => ?_, fun hd => hM (h.a (by rwa [done_ne (by omega)] at hd)), fun hd => ?_, fun h6 => ?_⟩
  · by_cases e : j = i
    · subst e; rw [setX_eq]
    · rw [done_ne e] at hd; rw [setX_ne e]; exact h.v j hj hd
  · rw [done_ne (by omega)] at h1 h2
    rw [setX_ne (by omega)]
    exact h.s h1 h2
  · rw [done_ne (by omega)] at hd
    rw [done_ne (by omega), done_ne (by omega), done_ne (by omega), done_ne (by omega)]
    exact h.q hd
  · rw [done_ne (by omega)] at h6
    unfold done
    split
    · rfl
    · exact h.five h6
theorem RA.block {vals : Nat → Value} {P0 : World → Prop} {o : OpG} {M : (Nat → Bool) → (Nat → Value) → World → Prop} {D : Nat → Bool} {x : Nat → Value} {y : World} (h : RA vals P0 o M D x y) (h7 : D 7 = false) (h5 : D 5 = true) (hP : ∀ z, P0 y → Below y.heap.size y z → P0 z) :
    RA vals P0 o M (done D 6) (setX x 6 (.slice (some ⟨y.heap.size, 0, none⟩) 1 1)) (y.alloc (.cells o.cells 39)) := by
  refine ⟨fun j hj hd => ?_, fun hd => hP _ (h.p h7) ((Below.refl _ _).alloc (Nat.le_refl _) _), fun _ _ => ⟨y.heap.size, by rw [setX_eq], blk_new _ _⟩, fun hd => ?_, fun hd => by rw [done_ne (by omega), done_ne (by omega), done_ne (by omega), done_ne (by omega)]; exact h.q h7, fun _ => by rw [done_ne (by omega)]; exact h5⟩
  · rw [done_ne (by omega)] at hd
    rw [setX_ne (by omega)]
    exact h.v j hj hd
  · rw [done_ne (by omega), h7] at hd; cases hd
theorem run_loadK {w : World} {s : Nat} {k : V8} (h0 : w.cell? ⟨s, 3 + 0, none⟩ = some (.int .i64 k.x0)) (h1 : w.cell? ⟨s, 3 + 1, none⟩ = some (.int .i64 k.x1)) (h2 : w.cell? ⟨s, 3 + 2, none⟩ = some (.int .i64 k.x2)) (h3 : w.cell? ⟨s, 3 + 3, none⟩ = some (.int .i64 k.x3)) (h4 : w.cell? ⟨s, 3 + 4, none⟩ = some (.int .i64 k.x4)) (h5 : w.cell? ⟨s, 3 + 5, none⟩ = some (.int .i64 k.x5)) (h6 : w.cell? ⟨s, 3 + 6, none⟩ = some (.int .i64 k.x6)) (h7 : w.cell? ⟨s, 3 + 7, none⟩ = some (.int .i64 k.x7)) : (Instr.loadAt 33 (.pointer (some ⟨s, 3, none⟩))).run Tryd.prog w = .ok k.val w := by
  simp only [Nat.reduceAdd] at h0 h1 h2 h3 h4 h5 h6 h7
  simp [go_sem, h0, h1, h2, h3, h4, h5, h6, h7]
theorem run_loadSt {w : World} {b : Nat} {n r : Int} (h0 : w.cell? ⟨b, 0, none⟩ = some (.int .i64 n)) (h1 : w.cell? ⟨b, 1, none⟩ = some (.int .i64 r)) : (Instr.loadAt 31 (.pointer (some ⟨b, 0, none⟩))).run Tryd.prog w = .ok (st n r) w := by
  simp [go_sem, h0, h1]
theorem run_storeK {w : World} {s tb db : Nat} {va vw : Value} {k : V8} (k2 : V8) (hb : w.heap[s]? = some (.cells (stC va vw tb db k) 55 (0, 0))) :
    ∃ w', (Instr.storeAt 33 (.pointer (some ⟨s, 3, none⟩)) k2.val).run Tryd.prog w = .ok () w' ∧ Ch (fun x => x = s) w w' ∧ w'.heap[s]? = some (.cells (stC va vw tb db k2) 55 (0, 0)) := by
  have hrun := run_storeVar_at (P := Tryd.prog) (t := 33) (cs := #[.int .i64 k2.x0, .int .i64 k2.x1, .int .i64 k2.x2, .int .i64 k2.x3, .int .i64 k2.x4, .int .i64 k2.x5, .int .i64 k2.x6, .int .i64 k2.x7]) (off := 3) w hb (by show 3 + 8 ≤ 12; omega) (by kernel_rfl) (by intro v hv; simp at hv; rcases hv with rfl | rfl | rfl | rfl | rfl | rfl | rfl | rfl <;> rfl)
  obtain ⟨k1, k2', k3⟩ := setCells_block (vs := [.int .i64 k2.x0, .int .i64 k2.x1, .int .i64 k2.x2, .int .i64 k2.x3, .int .i64 k2.x4, .int .i64 k2.x5, .int .i64 k2.x6, .int .i64 k2.x7]) (off := 3) hb (by show 3 + 8 ≤ 12; omega)
  refine ⟨_, ?_, k2', k1.trans rfl⟩
  simp [Instr.storeAt, Instr.sureAddr, hrun, Result.andThen]
/-- between deliver's steps -/
structure DM (w : World) (s tb db : Nat) (vw : Value) (A D : List OpG) (kv : V8) (W T : List OpG) (F : Nat → Prop) (o : OpG) (y : World) : Prop where
  st : ∃ va, StoreG y s tb db va vw A D kv W T (fun x => F x ∨ w.heap.size + 1 ≤ x)
  ch : Ch F w y
  box : y.heap[w.heap.size]? = some (.cells o.cells 39 (0, 0))
/-- ahead of the append -/
structure D0 (w : World) (s tb db : Nat) (va vw : Value) (A D : List OpG) (kv : V8) (W T : List OpG) (F : Nat → Prop) (o : OpG) (y : World) : Prop where
  st : StoreG y s tb db va vw A D kv W T F
  b : Below w.heap.size w y
  lt : w.heap.size < y.heap.size
  lo : ∀ x, F x → x < w.heap.size
  box : y.heap[w.heap.size]? = some (.cells o.cells 39 (0, 0))
/-- behind the append: the row in a value's hand -/
def DA (w : World) (s tb db : Nat) (va vw : Value) (A D : List OpG) (kv : V8) (W T : List OpG) (F : Nat → Prop) (o : OpG) (v : Value) (y : World) : Prop :=
  ∃ g n cap z, v = .slice (some ⟨g, 0, none⟩) n cap ∧ D0 w s tb db va vw A D kv W T F o z ∧ OwnO y 0 v (A ++ [o]) ∧ z.grownBy y va.ownBlock ∧ (va.ownBlock = some g ∨ g = z.heap.size)
theorem DA.top {w : World} {s tb db : Nat} {va vw : Value} {A D : List OpG} {kv : V8} {W T : List OpG} {F : Nat → Prop} {o : OpG} {v : Value} {y : World} (h : DA w s tb db va vw A D kv W T F o v y) : y.heap[s]? = some (.cells (stC va vw tb db kv) 55 (0, 0)) := by
  obtain ⟨g, n, cap, z, rfl, hz, -, hg, -⟩ := h
  exact (Ch.of_grown hg).at hz.st.top (fun e => (hz.st.nA _ e.symm).1 rfl)
theorem DA.put {w : World} {s tb db : Nat} {va vw : Value} {A D : List OpG} {kv : V8} {W T : List OpG} {F : Nat → Prop} {o : OpG} {v : Value} {y : World} (h : DA w s tb db va vw A D kv W T F o v y) : DM w s tb db vw (A ++ [o]) D kv W T F o (y.setCell ⟨s, 0, none⟩ v) := by
  obtain ⟨g, n, cap, z, rfl, hz, ho, hg, hl⟩ := h
  have hp := hz.st.putA (w := z) (Below.refl _ _) ho hg hl
  have hb := hz.b.size
  have hbx : z.heap[w.heap.size]? = some (.cells o.cells 39 (0, 0)) := hz.box
  refine ⟨⟨_, hp.1.mono (fun x hx => hx.elim .inl (fun e => .inr (by have := hz.lt; omega)))⟩, (Ch.of_below (F := F) hz.b).trans hp.2 (fun x _ e => e), hp.2.at hbx (fun e => absurd (hz.lo _ e) (Nat.lt_irrefl _))⟩
/-- behind the append -/
structure MD (w : World) (s tb db : Nat) (va vw : Value) (A D : List OpG) (kv : V8) (W T : List OpG) (F : Nat → Prop) (o : OpG) (Dn : Nat → Bool) (x : Nat → Value) (y : World) : Prop where
  d : Dn 4 = true ∧ Dn 5 = true ∧ Dn 6 = true
  p8 : Dn 8 = true → x 8 = ptr s
  p9 : Dn 9 = true → x 9 = ptr s
  da : Dn 10 = false → DA w s tb db va vw A D kv W T F o (x 7) y
  dm : Dn 10 = true → DM w s tb db vw (A ++ [o]) D kv W T F o y
theorem MD.keep {w : World} {s tb db : Nat} {va vw : Value} {A D : List OpG} {kv : V8} {W T : List OpG} {F : Nat → Prop} {o : OpG} {Dn : Nat → Bool} {x : Nat → Value} {y : World} (h : MD w s tb db va vw A D kv W T F o Dn x y) {i : Nat} (hi : i < 6) (v : Value) : MD w s tb db va vw A D kv W T F o (done Dn i) (setX x i v) y := by
  refine ⟨⟨?_, ?_, ?_⟩, fun h2 => ?_, fun h2 => ?_, fun h2 => ?_, fun h2 => ?_⟩
  · unfold done; split; rfl; exact h.d.1
  · unfold done; split; rfl; exact h.d.2.1
  · unfold done; split; rfl; exact h.d.2.2
  · rw [done_ne (by omega)] at h2; rw [setX_ne (by omega)]; exact h.p8 h2
  · rw [done_ne (by omega)] at h2; rw [setX_ne (by omega)]; exact h.p9 h2
  · rw [done_ne (by omega)] at h2; rw [setX_ne (by omega)]; exact h.da h2
  · rw [done_ne (by omega)] at h2; exact h.dm h2
theorem D0.later {w : World} {s tb db : Nat} {va vw : Value} {A D : List OpG} {kv : V8} {W T : List OpG} {F : Nat → Prop} {o : OpG} {y z : World} (h : D0 w s tb db va vw A D kv W T F o y) (b : Below y.heap.size y z) : D0 w s tb db va vw A D kv W T F o z :=
  ⟨h.st.later b, h.b.trans (b.mono h.b.size), Nat.lt_of_lt_of_le h.lt b.size, h.lo, (b.block _ (heap_lt h.box)).trans h.box⟩
set_option maxHeartbeats 8000000 in
set_option maxRecDepth 100000 in
theorem deliver_any (w : World) (s : Nat) (A W T : List OpG) (F : Nat → Prop) (h : StoreT w s A W T F) (o : OpG) (hl : A.length + 1 < 4294967296) (hno : o.id ∉ Cz.ids MO A) :
    Calls Tryd.prog 25 #[ptr s, o.val] w fun e w' => e = .returned (.tuple #[]) ∧ StoreT w' s (A ++ [o]) W T (fun z => F z ∨ w.heap.size ≤ z) ∧ Ch F w w' := by
  obtain ⟨tb, db, va, vw, hS⟩ := h
  obtain ⟨ao, ca, hva, -, -⟩ := hS.all.at'
  have HVA := Lib.hid hva
  have HS := Lib.hid hS.bnd
  have HL := Lib.hid hl
  have HNO := Lib.hid hno
  clear hS hva hl hno
  go_enter Tryd.func25, Tryd.ntmps25
  go_upto_region 1 with fail
  refine wp_let' (OpBox o w) (opBox_new o w) (fun x hx => ?_)
  have HX := Lib.hid hx
  clear hx
  go_cut [] (fun y => DM w s tb db vw (A ++ [o]) A (knownV A) W T (fun x => F x ∧ x < w.heap.size) o y)
  case first =>
    refine wp_act (fun b hb => ?_)
    have e0 : b.tmps.getD 0 undef = ptr s := by subst hb; kernel_rfl
    have e3 : b.tmps.getD 3 undef = ptr w.heap.size := by subst hb; kernel_rfl
    have es : b.tmps.size = 30 := by subst hb; kernel_rfl
    have HB := Lib.hid hb
    clear hb
    refine wp_region_inv (by kernel_rfl) (by kernel_rfl) (by kernel_rfl) (RA (fun i => if i = 4 then va else if i = 5 then o.val else ptr s) (D0 w s tb db va vw A A (knownV A) W T (fun x => F x ∧ x < w.heap.size) o) o (MD w s tb db va vw A A (knownV A) W T (fun x => F x ∧ x < w.heap.size) o)) ?_ ?_ ?_
    · exact ⟨fun i _ h => (by cases h), fun _ => ⟨HS.out.later (HX.out.1.trans (Below.refl _ _).drew), HX.out.1.trans ((Below.refl _ _).drew), heap_lt HX.out.2, fun x hx => hx.2, HX.out.2⟩, fun h => (by cases h), fun h => (by cases h), fun _ => ⟨rfl, rfl, rfl, rfl⟩, fun h => (by cases h)⟩
    · intro i p hp D x y hD hdep hR K hK
      rcases i with _ | _ | _ | _ | _ | _ | _ | _ | _ | _ | _ | i
      · simp only [List.getElem?_toArray, List.getElem?_cons_succ, List.getElem?_cons_zero, Option.some.injEq, Nat.zero_add] at hp
        subst hp
        refine step_move rfl (.tmp 0) rfl (puts_eval0 x 0 _ _ e0 (by kernel_rfl)) (hK _ _ (hR.keep (i := 0) (by omega) (fun h => h.keep (by omega) _)))
      · simp only [List.getElem?_toArray, List.getElem?_cons_succ, List.getElem?_cons_zero, Option.some.injEq, Nat.zero_add] at hp
        subst hp
        refine step_move rfl (.tmp 0) rfl (puts_eval0 x 0 _ _ e0 (by kernel_rfl)) (hK _ _ (hR.keep (i := 1) (by omega) (fun h => h.keep (by omega) _)))
      · simp only [List.getElem?_toArray, List.getElem?_cons_succ, List.getElem?_cons_zero, Option.some.injEq, Nat.zero_add] at hp
        subst hp
        have d1 : D 1 = true := hdep ⟨1, .data⟩ (by simp) rfl
        refine step_nil rfl (.tmp 5) rfl ((puts_eval x 5 _ _ (by kernel_rfl) (by rw [es]; decide) (i := 1) (by kernel_rfl)).trans (hR.v 1 (by omega) d1)) (hK _ _ (hR.keep (i := 2) (by omega) (fun h => h.keep (by omega) _)))
      · simp only [List.getElem?_toArray, List.getElem?_cons_succ, List.getElem?_cons_zero, Option.some.injEq, Nat.zero_add] at hp
        subst hp
        have d2 : D 2 = true := hdep ⟨2, .data⟩ (by simp) rfl
        refine step_field rfl (.tmp 6) rfl ((puts_eval x 6 _ _ (by kernel_rfl) (by rw [es]; decide) (i := 2) (by kernel_rfl)).trans (hR.v 2 (by omega) d2)) (by kernel_rfl) (hK _ _ (hR.keep (i := 3) (by omega) (fun h => h.keep (by omega) _)))
      · simp only [List.getElem?_toArray, List.getElem?_cons_succ, List.getElem?_cons_zero, Option.some.injEq, Nat.zero_add] at hp
        subst hp
        have d3 : D 3 = true := hdep ⟨3, .data⟩ (by simp) rfl
        have d7 : D 7 = false := by
          cases h : D 7 with
          | false => rfl
          | true => have := (hR.a h).d; simp_all
        have hc := blk_cell (hR.p d7).st.top 0
        refine step_load rfl (.tmp 7) rfl ((puts_eval x 7 _ _ (by kernel_rfl) (by rw [es]; decide) (i := 3) (by kernel_rfl)).trans (hR.v 3 (by omega) d3)) (run_loadS1 hc) (hK _ _ (hR.keep (i := 4) (by omega) (fun h => h.keep (by omega) _)))
      · simp only [List.getElem?_toArray, List.getElem?_cons_succ, List.getElem?_cons_zero, Option.some.injEq, Nat.zero_add] at hp
        subst hp
        have d7 : D 7 = false := by
          cases h : D 7 with
          | false => rfl
          | true => have := (hR.a h).d; simp_all
        refine step_load rfl (.tmp 3) rfl (puts_eval0 x 3 _ _ e3 (by kernel_rfl)) (run_loadAt_whole Tryd.underlying39 (by kernel_rfl) (hR.p d7).box) (hK _ _ (hR.keep (i := 5) (by omega) (fun h => h.keep (by omega) _)))
      · simp only [List.getElem?_toArray, List.getElem?_cons_succ, List.getElem?_cons_zero, Option.some.injEq, Nat.zero_add] at hp
        subst hp
        have d5 : D 5 = true := hdep ⟨5, .data⟩ (by simp) rfl
        have d7 : D 7 = false := by
          cases h : D 7 with
          | false => rfl
          | true => have := (hR.a h).d; simp_all
        refine step_bs rfl #[(0, .tmp 9)] rfl #[(0, o.val)] (congrArg (fun v => [(0, v)]) ((puts_eval x 9 _ _ (by kernel_rfl) (by rw [es]; decide) (i := 5) (by kernel_rfl)).trans (hR.v 5 (by omega) d5))) (run_bsO o y) (hK _ _ (hR.block d7 d5 (fun z h b => h.later b)))
      · simp only [List.getElem?_toArray, List.getElem?_cons_succ, List.getElem?_cons_zero, Option.some.injEq, Nat.zero_add] at hp
        subst hp
        have d4 : D 4 = true := hdep ⟨4, .data⟩ (by simp) rfl
        have d6 : D 6 = true := hdep ⟨6, .data⟩ (by simp) rfl
        obtain ⟨B, h6, hB⟩ := hR.s d6 hD
        have hP := hR.p hD
        refine step_wp rfl (wp_appL (.tmp 8) (.tmp 10) rfl 0 va A o ((puts_eval x 8 _ _ (by kernel_rfl) (by rw [es]; decide) (i := 4) (by kernel_rfl)).trans (hR.v 4 (by omega) d4)) hP.st.all B ((puts_eval x 10 _ _ (by kernel_rfl) (by rw [es]; decide) (i := 6) (by kernel_rfl)).trans h6) hB HL.out (Nat.zero_le _) fun g cap z h1 h2 h3 => hK _ _ ?_)
        obtain ⟨q8, q9, q10, q11⟩ := hR.q hD
        refine ⟨fun j hj hd => (by rw [done_ne (by omega)] at hd; rw [setX_ne (by omega)]; exact hR.v j hj hd), fun h => (by rw [done_eq] at h; cases h), fun _ h => (by rw [done_eq] at h; cases h), fun _ => ?_, fun h => (by rw [done_eq] at h; cases h), fun h => (by rw [done_ne (by omega)] at h ⊢; exact hR.five h)⟩
        have d5 : D 5 = true := hR.five d6
        refine ⟨⟨by rw [done_ne (by omega)]; exact d4, by rw [done_ne (by omega)]; exact d5, by rw [done_ne (by omega)]; exact d6⟩, fun h => (by rw [done_ne (by omega), q8] at h; cases h), fun h => (by rw [done_ne (by omega), q9] at h; cases h), fun _ => ?_, fun h => (by rw [done_ne (by omega), q10] at h; cases h)⟩
        rw [setX_eq]
        exact ⟨g, _, cap, y, rfl, hP, h1, h2, h3⟩
      · simp only [List.getElem?_toArray, List.getElem?_cons_succ, List.getElem?_cons_zero, Option.some.injEq, Nat.zero_add] at hp
        subst hp
        have d0 : D 0 = true := hdep ⟨0, .data⟩ (by simp) rfl
        have d7 : D 7 = true := hdep ⟨7, .phase⟩ (by simp) rfl
        have hA := hR.a d7
        refine step_nil rfl (.tmp 4) rfl ((puts_eval x 4 _ _ (by kernel_rfl) (by rw [es]; decide) (i := 0) (by kernel_rfl)).trans (hR.v 0 (by omega) d0)) (hK _ _ ?_)
        refine ⟨fun j hj hd => (by rw [done_ne (by omega)] at hd; rw [setX_ne (by omega)]; exact hR.v j hj hd), fun h => (by rw [done_ne (by omega), d7] at h; cases h), fun _ h => (by rw [done_ne (by omega), d7] at h; cases h), fun _ => ?_, fun h => (by rw [done_ne (by omega), d7] at h; cases h), fun h => (by rw [done_ne (by omega)] at h ⊢; exact hR.five h)⟩
        exact ⟨⟨by rw [done_ne (by omega)]; exact hA.d.1, by rw [done_ne (by omega)]; exact hA.d.2.1, by rw [done_ne (by omega)]; exact hA.d.2.2⟩, fun _ => (by rw [setX_eq]), fun h => (by rw [done_ne (by omega)] at h; rw [setX_ne (by omega)]; exact hA.p9 h), fun h => (by rw [done_ne (by omega)] at h; rw [setX_ne (by omega)]; exact hA.da h), fun h => (by rw [done_ne (by omega)] at h; exact hA.dm h)⟩
      · simp only [List.getElem?_toArray, List.getElem?_cons_succ, List.getElem?_cons_zero, Option.some.injEq, Nat.zero_add] at hp
        subst hp
        have d8 : D 8 = true := hdep ⟨8, .data⟩ (by simp) rfl
        have d7 : D 7 = true := hdep ⟨7, .phase⟩ (by simp) rfl
        have hA := hR.a d7
        refine step_field rfl (.tmp 12) rfl ((puts_eval x 12 _ _ (by kernel_rfl) (by rw [es]; decide) (i := 8) (by kernel_rfl)).trans (hA.p8 d8)) (v := ptr s) (by kernel_rfl) (hK _ _ ?_)
        refine ⟨fun j hj hd => (by rw [done_ne (by omega)] at hd; rw [setX_ne (by omega)]; exact hR.v j hj hd), fun h => (by rw [done_ne (by omega), d7] at h; cases h), fun _ h => (by rw [done_ne (by omega), d7] at h; cases h), fun _ => ?_, fun h => (by rw [done_ne (by omega), d7] at h; cases h), fun h => (by rw [done_ne (by omega)] at h ⊢; exact hR.five h)⟩
        exact ⟨⟨by rw [done_ne (by omega)]; exact hA.d.1, by rw [done_ne (by omega)]; exact hA.d.2.1, by rw [done_ne (by omega)]; exact hA.d.2.2⟩, fun h => (by rw [done_ne (by omega)] at h; rw [setX_ne (by omega)]; exact hA.p8 h), fun _ => (by rw [setX_eq]), fun h => (by rw [done_ne (by omega)] at h; rw [setX_ne (by omega)]; exact hA.da h), fun h => (by rw [done_ne (by omega)] at h; exact hA.dm h)⟩
      · simp only [List.getElem?_toArray, List.getElem?_cons_succ, List.getElem?_cons_zero, Option.some.injEq, Nat.zero_add] at hp
        subst hp
        have d9 : D 9 = true := hdep ⟨9, .data⟩ (by simp) rfl
        have d7 : D 7 = true := hdep ⟨7, .data⟩ (by simp) rfl
        have hA := hR.a d7
        have hda := hA.da hD
        obtain ⟨g, n, cap, z, h7, -⟩ := id hda
        refine step_store1 rfl (.tmp 13) (.tmp 11) rfl ((puts_eval x 13 _ _ (by kernel_rfl) (by rw [es]; decide) (i := 9) (by kernel_rfl)).trans (hA.p9 d9)) ((puts_eval x 11 _ _ (by kernel_rfl) (by rw [es]; decide) (i := 7) (by kernel_rfl)).trans h7) (run_storeO y hda.top (by simp)) (hK _ _ ?_)
        rw [h7] at hda
        refine ⟨fun j hj hd => (by rw [done_ne (by omega)] at hd; rw [setX_ne (by omega)]; exact hR.v j hj hd), fun h => (by rw [done_ne (by omega), d7] at h; cases h), fun _ h => (by rw [done_ne (by omega), d7] at h; cases h), fun _ => ?_, fun h => (by rw [done_ne (by omega), d7] at h; cases h), fun h => (by rw [done_ne (by omega)] at h ⊢; exact hR.five h)⟩
        exact ⟨⟨by rw [done_ne (by omega)]; exact hA.d.1, by rw [done_ne (by omega)]; exact hA.d.2.1, by rw [done_ne (by omega)]; exact hA.d.2.2⟩, fun h => (by rw [done_ne (by omega)] at h; rw [setX_ne (by omega)]; exact hA.p8 h), fun h => (by rw [done_ne (by omega)] at h; rw [setX_ne (by omega)]; exact hA.p9 h), fun h => (by rw [done_eq] at h; cases h), fun _ => hda.put⟩
      · cases hp
    · intro D x y hD hR
      have hdm := (hR.a (hD 7 (by decide))).dm (hD 10 (by decide))
      clear hR hD e0 e3 es
      rw [HB.out]
      simp only [puts, Act.put, List.setIfInBounds_toArray, List.set_cons_zero, List.set_cons_succ]
      go_wp2_with fail
      go_meet
      exact hdm
  case rest =>
    have HM := Lib.hid hcut
    generalize wc = y1 at *
    clear hcut HX HS HVA
    obtain ⟨va2, hst⟩ := HM.out.st
    have hst2 := hst.later (Below.refl _ _).drew
    obtain ⟨n, hd⟩ := hst2.done
    obtain ⟨w1, hrun, m1, ch1, sz1⟩ := hd.update (P := Tryd.prog) keyIs_stamp Tryd.underlying53 o.id (.bool true)
    simp only [OpG.id] at hrun
    have t2 := blk_cell hst2.top 2
    have c0 : y1.drew.cell? ⟨w.heap.size, 0, none⟩ = some (.int .i64 o.n) := blk_cell HM.out.box 0
    have c1 : y1.drew.cell? ⟨w.heap.size, 1, none⟩ = some (.int .i64 o.r) := blk_cell HM.out.box 1
    have HS1 := Lib.hid (hst2.putD (D' := A ++ [o]) ch1 (m1.eqv (fun x => thF_add A o x)))
    have HC1 := Lib.hid ch1
    have hb1 : y1.drew.heap[w.heap.size]? = some (.cells o.cells 39 (0, 0)) := HM.out.box
    have HB1 := Lib.hid (ch1.at hb1 (fun e => by have := hd.lt; have := hst2.two; have h3 := (MapIs.block hd); obtain ⟨es, ck, h3⟩ := h3; rw [e] at hb1; rw [hb1] at h3; cases h3))
    clear hst hst2 hd m1 ch1 sz1 hb1
    go_upto_region 2 with fail
    go_region
    clear hrun t2 c0 c1
    go_upto_region 3 with fail
    have HS2 := Lib.hid (fun z (hb : Below w1.heap.size w1 z) => HS1.out.later hb)
    have HW := Lib.hid (fun z => with_any (knownV A) o.n o.r z)
    have HKV := Lib.hid (knownV_snoc A o)
    refine wp_act (fun b hb => ?_)
    have e0 : b.tmps.getD 0 undef = ptr s := by subst hb; kernel_rfl
    have e3 : b.tmps.getD 3 undef = ptr w.heap.size := by subst hb; kernel_rfl
    have es : b.tmps.size = 30 := by subst hb; kernel_rfl
    have HB := Lib.hid hb
    clear hb
    refine wp_region_inv (by kernel_rfl) (by kernel_rfl) (by kernel_rfl) (RV (fun i => if i = 4 then (knownV A).val else if i = 6 then st o.n o.r else if i = 7 then (knownV (A ++ [o])).val else if i = 5 then ptr w.heap.size else if i = 3 then .pointer (some ⟨s, 3, none⟩) else if i = 9 then .pointer (some ⟨s, 3, none⟩) else ptr s) (fun y => StoreG y s tb db va2 vw (A ++ [o]) (A ++ [o]) (knownV A) W T (fun x => (F x ∧ x < w.heap.size) ∨ w.heap.size + 1 ≤ x) ∧ Below w1.heap.size w1 y ∧ y.heap[w.heap.size]? = some (.cells o.cells 39 (0, 0))) (fun y => StoreG y s tb db va2 vw (A ++ [o]) (A ++ [o]) (knownV (A ++ [o])) W T (fun x => (F x ∧ x < w.heap.size) ∨ w.heap.size + 1 ≤ x) ∧ Ch (fun x => x = s) w1 y) 10) ?_ ?_ ?_
    · exact ⟨fun i _ h => (by cases h), fun _ => ⟨HS1.out.later (Below.refl _ _).drew, (Below.refl _ _).drew, HB1.out⟩, fun h => (by cases h), fun h => (by cases h), fun h => (by cases h)⟩
    · intro i p hp D x y hD hdep hR K hK
      rcases i with _ | _ | _ | _ | _ | _ | _ | _ | _ | _ | _ | i
      · simp only [List.getElem?_toArray, List.getElem?_cons_succ, List.getElem?_cons_zero, Option.some.injEq, Nat.zero_add] at hp
        subst hp
        refine step_move rfl (.tmp 0) rfl (puts_eval0 x 0 _ _ e0 (by kernel_rfl)) (hK _ _ (hR.keep (i := 0) (by omega) hD (fun h => by cases h) id))
      · simp only [List.getElem?_toArray, List.getElem?_cons_succ, List.getElem?_cons_zero, Option.some.injEq, Nat.zero_add] at hp
        subst hp
        refine step_move rfl (.tmp 0) rfl (puts_eval0 x 0 _ _ e0 (by kernel_rfl)) (hK _ _ (hR.keep (i := 1) (by omega) hD (fun h => by cases h) id))
      · simp only [List.getElem?_toArray, List.getElem?_cons_succ, List.getElem?_cons_zero, Option.some.injEq, Nat.zero_add] at hp
        subst hp
        have d1 : D 1 = true := hdep ⟨1, .data⟩ (by simp) rfl
        refine step_nil rfl (.tmp 21) rfl ((puts_eval x 21 _ _ (by kernel_rfl) (by rw [es]; decide) (i := 1) (by kernel_rfl)).trans (hR.v 1 (by omega) d1)) (hK _ _ (hR.keep (i := 2) (by omega) hD (fun h => by cases h) id))
      · simp only [List.getElem?_toArray, List.getElem?_cons_succ, List.getElem?_cons_zero, Option.some.injEq, Nat.zero_add] at hp
        subst hp
        have d2 : D 2 = true := hdep ⟨2, .data⟩ (by simp) rfl
        refine step_field rfl (.tmp 22) rfl ((puts_eval x 22 _ _ (by kernel_rfl) (by rw [es]; decide) (i := 2) (by kernel_rfl)).trans (hR.v 2 (by omega) d2)) (by kernel_rfl) (hK _ _ (hR.keep (i := 3) (by omega) hD (fun h => by cases h) id))
      · simp only [List.getElem?_toArray, List.getElem?_cons_succ, List.getElem?_cons_zero, Option.some.injEq, Nat.zero_add] at hp
        subst hp
        have d3 : D 3 = true := hdep ⟨3, .data⟩ (by simp) rfl
        have hP := hR.p (by cases e : D 10 with | false => rfl | true => (have := hR.n e 4 (by omega); rw [hD] at this; cases this))
        have ht := hP.1.top
        refine step_load rfl (.tmp 23) rfl ((puts_eval x 23 _ _ (by kernel_rfl) (by rw [es]; decide) (i := 3) (by kernel_rfl)).trans (hR.v 3 (by omega) d3)) (run_loadK (k := knownV A) (blk_cell ht 3) (blk_cell ht 4) (blk_cell ht 5) (blk_cell ht 6) (blk_cell ht 7) (blk_cell ht 8) (blk_cell ht 9) (blk_cell ht 10)) (hK _ _ (hR.keep (i := 4) (by omega) hD (fun h => by cases h) id))
      · simp only [List.getElem?_toArray, List.getElem?_cons_succ, List.getElem?_cons_zero, Option.some.injEq, Nat.zero_add] at hp
        subst hp
        refine step_field rfl (.tmp 3) rfl (puts_eval0 x 3 _ _ e3 (by kernel_rfl)) (by kernel_rfl) (hK _ _ (hR.keep (i := 5) (by omega) hD (fun h => by cases h) id))
      · simp only [List.getElem?_toArray, List.getElem?_cons_succ, List.getElem?_cons_zero, Option.some.injEq, Nat.zero_add] at hp
        subst hp
        have d5 : D 5 = true := hdep ⟨5, .data⟩ (by simp) rfl
        have hP := hR.p (by cases e : D 10 with | false => rfl | true => (have := hR.n e 6 (by omega); rw [hD] at this; cases this))
        refine step_load rfl (.tmp 25) rfl ((puts_eval x 25 _ _ (by kernel_rfl) (by rw [es]; decide) (i := 5) (by kernel_rfl)).trans (hR.v 5 (by omega) d5)) (run_loadSt (blk_cell hP.2.2 0) (blk_cell hP.2.2 1)) (hK _ _ (hR.keep (i := 6) (by omega) hD (fun h => by cases h) id))
      · simp only [List.getElem?_toArray, List.getElem?_cons_succ, List.getElem?_cons_zero, Option.some.injEq, Nat.zero_add] at hp
        subst hp
        have d4 : D 4 = true := hdep ⟨4, .data⟩ (by simp) rfl
        have d6 : D 6 = true := hdep ⟨6, .data⟩ (by simp) rfl
        refine step_call rfl rfl (vs := [(knownV A).val, st o.n o.r]) (by
          rw [show ([Operand.tmp 24, Operand.tmp 26].map (puts x _ 0 b).eval) = [(puts x _ 0 b).eval (.tmp 24), (puts x _ 0 b).eval (.tmp 26)] from rfl, (puts_eval x 24 _ _ (by kernel_rfl) (by rw [es]; decide) (i := 4) (by kernel_rfl)).trans (hR.v 4 (by omega) d4), (puts_eval x 26 _ _ (by kernel_rfl) (by rw [es]; decide) (i := 6) (by kernel_rfl)).trans (hR.v 6 (by omega) d6)]
          rfl) (enters_of Tryd.func50 (by kernel_rfl) rfl) (HW.out y) (fun e z ⟨he, hb⟩ => ⟨_, he, hK _ _ ?_⟩)
        rw [← HKV.out]
        exact hR.keep (i := 7) (by omega) hD (fun h => by cases h) (fun hP => ⟨hP.1.later hb, hP.2.1.trans (hb.mono hP.2.1.size), (hb.block _ (heap_lt hP.2.2)).trans hP.2.2⟩)
      · simp only [List.getElem?_toArray, List.getElem?_cons_succ, List.getElem?_cons_zero, Option.some.injEq, Nat.zero_add] at hp
        subst hp
        have d0 : D 0 = true := hdep ⟨0, .data⟩ (by simp) rfl
        refine step_nil rfl (.tmp 20) rfl ((puts_eval x 20 _ _ (by kernel_rfl) (by rw [es]; decide) (i := 0) (by kernel_rfl)).trans (hR.v 0 (by omega) d0)) (hK _ _ (hR.keep (i := 8) (by omega) hD (fun h => by cases h) id))
      · simp only [List.getElem?_toArray, List.getElem?_cons_succ, List.getElem?_cons_zero, Option.some.injEq, Nat.zero_add] at hp
        subst hp
        have d8 : D 8 = true := hdep ⟨8, .data⟩ (by simp) rfl
        refine step_field rfl (.tmp 28) rfl ((puts_eval x 28 _ _ (by kernel_rfl) (by rw [es]; decide) (i := 8) (by kernel_rfl)).trans (hR.v 8 (by omega) d8)) (by kernel_rfl) (hK _ _ (hR.keep (i := 9) (by omega) hD (fun _ => d8) id))
      · simp only [List.getElem?_toArray, List.getElem?_cons_succ, List.getElem?_cons_zero, Option.some.injEq, Nat.zero_add] at hp
        subst hp
        have d9 : D 9 = true := hdep ⟨9, .data⟩ (by simp) rfl
        have d7 : D 7 = true := hdep ⟨7, .data⟩ (by simp) rfl
        have hP := hR.p hD
        obtain ⟨w2, hrun, hc, ht⟩ := run_storeK (knownV (A ++ [o])) hP.1.top
        refine step_store1 rfl (.tmp 29) (.tmp 27) rfl ((puts_eval x 29 _ _ (by kernel_rfl) (by rw [es]; decide) (i := 9) (by kernel_rfl)).trans (hR.v 9 (by omega) d9)) ((puts_eval x 27 _ _ (by kernel_rfl) (by rw [es]; decide) (i := 7) (by kernel_rfl)).trans (hR.v 7 (by omega) d7)) hrun (hK _ _ (hR.last (fun i hi => ?_) d9 (by omega) ?_))
        · rcases nat8 (show i < 8 by omega) with rfl | rfl | rfl | rfl | rfl | rfl | rfl | rfl
          · exact hdep ⟨0, .phase⟩ (by simp) rfl
          · exact hdep ⟨1, .phase⟩ (by simp) rfl
          · exact hdep ⟨2, .phase⟩ (by simp) rfl
          · exact hdep ⟨3, .phase⟩ (by simp) rfl
          · exact hdep ⟨4, .phase⟩ (by simp) rfl
          · exact hdep ⟨5, .phase⟩ (by simp) rfl
          · exact hdep ⟨6, .phase⟩ (by simp) rfl
          · exact hdep ⟨7, .phase⟩ (by simp) rfl
        · exact ⟨hP.1.putK _ hc ht, (Ch.of_below (F := fun x => x = s) hP.2.1).trans hc (fun x _ e => e)⟩
      · cases hp
    · intro D x y hD hR
      have hf := hR.f (hD 10 (by decide))
      have HF := Lib.hid hf
      clear hR hD e0 e3 es hf
      rw [HB.out]
      simp only [puts, Act.put, List.setIfInBounds_toArray, List.set_cons_zero, List.set_cons_succ]
      go_wp2_with fail
      go_end0
      refine ⟨rfl, ⟨tb, db, va2, vw, HF.out.1.mono (fun x hx => hx.elim (fun h => .inl h.1) (fun h => .inr (by omega)))⟩, ?_⟩
      refine (((HM.out.ch.drew).trans HC1.out (fun x hx e => ?_)).trans HF.out.2 (fun x hx e => ?_)).mono (fun x _ h => h.1)
      · subst e
        exact HS1.out.fs.2.2.resolve_right (by omega)
      · subst e
        exact HS1.out.fs.1.resolve_right (by omega)
end Go.Proofs.YtiamohfpohjdpaaDoor
