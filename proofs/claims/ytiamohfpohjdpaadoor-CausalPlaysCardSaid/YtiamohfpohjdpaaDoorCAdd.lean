/- A STORE OF OPERATIONS: Add. -/
import Derived.Test.YtiamohfpohjdpaaDoorCLoop
import Derived.Test.YtiamohfpohjdpaaDoorORightAll
import Derived.Test.YtiamohfpohjdpaaDoorOSorted
namespace Go.Proofs.YtiamohfpohjdpaaDoor
open Go.RowKit Go.Joins
set_option linter.unusedSimpArgs false
set_option linter.unusedVariables false
open Classical

/-- Add's boxes -/
structure AB (w : World) (s : Nat) (o : OpG) (y : World) : Prop where
  b : Below w.heap.size w y
  sb : y.heap[w.heap.size]? = some (.cells #[ptr s] 24 (0, 0))
  ob : y.heap[w.heap.size + 1]? = some (.cells o.cells 39 (0, 0))
theorem AB.new (w : World) (s : Nat) (o : OpG) : AB w s o ((w.alloc (.cells #[ptr s] 24)).alloc (.cells o.cells 39)) :=
  ⟨((Below.refl _ _).alloc (Nat.le_refl _) _).alloc (by simp) _, blk_alloc (blk_new _ _), by have := blk_new (w.alloc (.cells #[ptr s] 24)) (.cells o.cells 39); simpa using this⟩
theorem AB.later {w : World} {s : Nat} {o : OpG} {y z : World} (h : AB w s o y) (b : Below y.heap.size y z) : AB w s o z := ⟨h.b.trans (b.mono h.b.size), (b.block _ (heap_lt h.sb)).trans h.sb, (b.block _ (heap_lt h.ob)).trans h.ob⟩
/-- what Add answers and leaves -/
def AddT (s : Nat) (A W : List OpG) (F : Nat → Prop) (o : OpG) (w : World) (e : Ending) (w' : World) : Prop :=
  ∃ v res err A' W', e = .returned (.tuple #[v, .int .i64 err]) ∧ Cz.AddR MO SortOf A W o res err A' W' ∧ StoreIs w' s A' W' (fun x => F x ∨ w.heap.size ≤ x) ∧ Ch F w w' ∧ OwnO w' w.heap.size v res ∧ (∀ b, v.ownBlock = some b → w.heap.size ≤ b)
theorem AddT.same {s : Nat} {A W : List OpG} {F : Nat → Prop} {o : OpG} {w w' : World} {err : Int} (hS : StoreIs w s A W F) (b : Below w.heap.size w w') (h : Cz.AddR MO SortOf A W o [] err A W) : AddT s A W F o w (.returned (.tuple #[.slice none 0 0, .int .i64 err])) w' :=
  ⟨_, [], err, A, W, rfl, h, (hS.later b).mono (fun _ => .inl), Ch.of_below b, OwnO.nil _ _, fun b hb => by cases hb⟩
/-- Add's boxes, once the store has been turned -/
structure AC (F : Nat → Prop) (w : World) (s : Nat) (o : OpG) (y : World) : Prop where
  ch : Ch F w y
  sb : y.heap[w.heap.size]? = some (.cells #[ptr s] 24 (0, 0))
  ob : y.heap[w.heap.size + 1]? = some (.cells o.cells 39 (0, 0))
theorem AB.ac {F : Nat → Prop} {w : World} {s : Nat} {o : OpG} {y : World} (h : AB w s o y) : AC F w s o y := ⟨Ch.of_below h.b, h.sb, h.ob⟩
theorem AC.later {F : Nat → Prop} {w : World} {s : Nat} {o : OpG} {y z : World} (h : AC F w s o y) (b : Below y.heap.size y z) : AC F w s o z := ⟨h.ch.later b, (b.block _ (heap_lt h.sb)).trans h.sb, (b.block _ (heap_lt h.ob)).trans h.ob⟩
theorem AC.step {F G : Nat → Prop} {w : World} {s : Nat} {o : OpG} {y z : World} (h : AC F w s o y) (c : Ch G y z) (hG : ∀ x, x < w.heap.size → G x → F x) (h1 : ¬ G w.heap.size) (h2 : ¬ G (w.heap.size + 1)) : AC F w s o z := ⟨h.ch.trans c hG, c.at h.sb h1, c.at h.ob h2⟩
theorem exec_call {P : Program} {a : Act} {o : Oper} {w : World} {f : Nat} {args : Array Operand} {ts : Array TypeId} {vs : List Value} (ho : o.op = .call { callee := .value (.func f), args := args, argTypes := ts }) (ha : args.toList.map a.eval = vs) (eg : ∀ args w, (callFunc f args).run P w = .ok (.enter f args) w) :
    (execOp a.eval o).run P w = .ok (.enter f vs.toArray) w := by
  have ha2 : args.map a.eval = vs.toArray := by
    apply Array.ext'
    rw [Array.toList_map, ha]
  have h3 := eg vs.toArray w
  simp [execOp, ho, resolve, invoke, Act.eval, Result.andThen, Deferred.ofValue]
  rw [ha2]
  simpa using h3
theorem exec_loadp {P : Program} {a : Act} {o : Oper} {w : World} {t : TypeId} {v ad : Value} (p : Operand) (ho : o.op = .load t p) (hp : a.eval p = ad) (h : (Instr.loadAt t ad).run P w = .ok v w) : (execOp a.eval o).run P w = .ok (.value v) w := by
  subst hp
  simp [execOp, ho, h, Result.andThen]
theorem exec_store {P : Program} {a : Act} {o : Oper} {w w' : World} {t : TypeId} {v ad : Value} (p x : Operand) (ho : o.op = .store t p x) (hp : a.eval p = ad) (hx : a.eval x = v) (h : (Instr.storeAt t ad v).run P w = .ok () w') : (execOp a.eval o).run P w = .ok .skip w' := by
  subst hp hx
  simp [execOp, ho, h, Result.andThen]
abbrev zeroO : Array Value := #[.int .i64 0, .int .i64 0, .int .i64 0, .int .i64 0, .int .i64 0, .int .i64 0, .int .i64 0, .int .i64 0, .int .i64 0, .int .i64 0, .int .i64 0, .int .i64 0, .int .i64 0, .int .i64 0, .int .i64 0, .int .i64 0, .int .i64 0, .string ⟨#[]⟩, .string ⟨#[]⟩, .string ⟨#[]⟩, .int .i64 0, .int .i64 0, .bool false, .int .i64 0, .int .i64 0, .bool false]
theorem exec_allocO {a : Act} {o : Oper} {w : World} (ho : o.op = .alloc 39) : (execOp a.eval o).run Tryd.prog w = .ok (.value (ptr w.heap.size)) (w.alloc (.cells zeroO 39)) := by
  unfold execOp
  rw [ho]
  kernel_rfl
/-- its stamp is there from now on -/
theorem StoreG.addT {y : World} {s tb db : Nat} {va vw : Value} {A D W T : List OpG} {kv : V8} {F : Nat → Prop} (h : StoreG y s tb db va vw A D kv W T F) (o : OpG) (hno : o.id ∉ Cz.ids MO T) :
    ∃ w1, (Instr.mapUpdate 53 (.map (some tb)) (.agg #[.int .i64 o.n, .int .i64 o.r]) (.bool true)).run Tryd.prog y = .ok () w1 ∧ StoreG w1 s tb db va vw A D kv W (T ++ [o]) F ∧ Ch (fun x => x = tb) y w1 := by
  obtain ⟨w1, hrun, m1, ch1, sz1⟩ := h.there.update (P := Tryd.prog) keyIs_stamp Tryd.underlying53 o.id (.bool true)
  refine ⟨w1, hrun, h.putT (T' := T ++ [o]) ch1 ?_, ch1⟩
  have e : more (thF T) o.id T.length = (T ++ [o]).length := by
    unfold more thF
    simp [hno]
  rw [← e]
  exact m1.eqv (fun x => thF_add T o x)
theorem wp_calm {P : Program} {c : Code} {K : Act → World → Prop} {Q : Exit → Act → World → Prop} {a : Act} {w : World} (h : c.wp P (Exit.then K (fun _ _ _ => False)) a w) : c.wp P (Exit.then K Q) a w :=
  Code.wp_mono (fun e a w h => by cases e <;> first | exact h | exact h.elim) h
theorem nd_new {A W : List OpG} {o : OpG} (hn : (Cz.ids MO (A ++ W)).Nodup) (hno : o.id ∉ Cz.ids MO (A ++ W)) : (Cz.ids MO (A ++ [o] ++ W)).Nodup := by
  have h1 : (A ++ [o] ++ W).Perm (o :: (A ++ W)) := by
    rw [List.append_assoc]
    exact List.perm_middle
  refine (Cz.ids_perm (M := MO) h1).nodup_iff.2 ?_
  show (o.id :: Cz.ids MO (A ++ W)).Nodup
  exact List.nodup_cons.2 ⟨hno, hn⟩
theorem perm_new {A W A1 W1 : List OpG} {o : OpG} (h : (A1 ++ W1).Perm ((A ++ [o]) ++ W)) : (A ++ W ++ [o]).Perm (A1 ++ W1) := by
  refine List.Perm.trans ?_ h.symm
  rw [List.append_assoc, List.append_assoc]
  exact List.Perm.append_left A List.perm_append_comm
theorem bne_i {n : Nat} {k : Int} (h : (n : Int) ≠ k) : ((n : Int) == k) = false := beq_eq_false_iff_ne.2 h
theorem RA.after {vals : Nat → Value} {P0 : World → Prop} {o : OpG} {M : (Nat → Bool) → (Nat → Value) → World → Prop} {D : Nat → Bool} {x : Nat → Value} {y z : World} {u : Value} (h : RA vals P0 o M D x y) {i : Nat} (h7 : D 7 = true) (hi : 8 ≤ i) (hM : M (done D i) (setX x i u) z) : RA vals P0 o M (done D i) (setX x i u) z := by
  refine ⟨fun j hj hd => (by rw [done_ne (by omega)] at hd; rw [setX_ne (by omega)]; exact h.v j hj hd), fun hd => (by rw [done_ne (by omega), h7] at hd; cases hd), fun _ hd => (by rw [done_ne (by omega), h7] at hd; cases hd), fun _ => hM, fun hd => (by rw [done_ne (by omega), h7] at hd; cases hd), fun hd => (by rw [done_ne (by omega)] at hd ⊢; exact h.five hd)⟩
/-- behind the append: SA: the row in hand; SB: the sorted row in hand; SC: it lies in the store -/
structure MW (s b0 : Nat) (SA SB : Value → World → Prop) (SC : World → Prop) (D : Nat → Bool) (x : Nat → Value) (y : World) : Prop where
  d : D 4 = true ∧ D 5 = true ∧ D 6 = true
  bx : y.heap[b0]? = some (.cells #[ptr s] 24 (0, 0))
  a : D 8 = false → SA (x 7) y
  b : D 8 = true → D 11 = false → SB (x 8) y
  c : D 11 = true → SC y
  r : D 8 = false → D 9 = false ∧ D 10 = false ∧ D 11 = false
  p9 : D 9 = true → x 9 = ptr s
  p10 : D 10 = true → x 10 = .pointer (some ⟨s, 11, none⟩)
section
variable {s b0 : Nat} {SA SB : Value → World → Prop} {SC : World → Prop} {D : Nat → Bool} {x : Nat → Value} {y z : World} {u : Value}
theorem MW.keep (h : MW s b0 SA SB SC D x y) {i : Nat} (hi : i < 6) (v : Value) : MW s b0 SA SB SC (done D i) (setX x i v) y := by
  refine ⟨⟨done_mono h.d.1, done_mono h.d.2.1, done_mono h.d.2.2⟩, h.bx, fun h2 => ?_, fun h2 h3 => ?_, fun h2 => ?_, fun h2 => ?_, fun h2 => ?_, fun h2 => ?_⟩
  · rw [done_ne (by omega)] at h2; rw [setX_ne (by omega)]; exact h.a h2
  · rw [done_ne (by omega)] at h2 h3; rw [setX_ne (by omega)]; exact h.b h2 h3
  · rw [done_ne (by omega)] at h2; exact h.c h2
  · rw [done_ne (by omega)] at h2; rw [done_ne (by omega), done_ne (by omega), done_ne (by omega)]; exact h.r h2
  · rw [done_ne (by omega)] at h2; rw [setX_ne (by omega)]; exact h.p9 h2
  · rw [done_ne (by omega)] at h2; rw [setX_ne (by omega)]; exact h.p10 h2
theorem MW.new (h4 : D 4 = true) (h5 : D 5 = true) (h6 : D 6 = true) (h8 : D 8 = false ∧ D 9 = false ∧ D 10 = false ∧ D 11 = false) (hb : z.heap[b0]? = some (.cells #[ptr s] 24 (0, 0))) (hA : SA u z) : MW s b0 SA SB SC (done D 7) (setX x 7 u) z := by
  refine ⟨⟨done_mono h4, done_mono h5, done_mono h6⟩, hb, fun _ => (by rw [setX_eq]; exact hA), fun h2 => ?_, fun h2 => ?_, fun _ => ?_, fun h2 => ?_, fun h2 => ?_⟩
  · rw [done_ne (by omega), h8.1] at h2; cases h2
  · rw [done_ne (by omega), h8.2.2.2] at h2; cases h2
  · rw [done_ne (by omega), done_ne (by omega), done_ne (by omega)]; exact h8.2
  · rw [done_ne (by omega), h8.2.1] at h2; cases h2
  · rw [done_ne (by omega), h8.2.2.1] at h2; cases h2
theorem MW.sort (h : MW s b0 SA SB SC D x y) (h8 : D 8 = false) (hb : z.heap[b0]? = some (.cells #[ptr s] 24 (0, 0))) (hB : SB u z) : MW s b0 SA SB SC (done D 8) (setX x 8 u) z := by
  obtain ⟨r9, r10, r11⟩ := h.r h8
  refine ⟨⟨done_mono h.d.1, done_mono h.d.2.1, done_mono h.d.2.2⟩, hb, fun h2 => ?_, fun _ _ => (by rw [setX_eq]; exact hB), fun h2 => ?_, fun h2 => ?_, fun h2 => ?_, fun h2 => ?_⟩
  · rw [done_eq] at h2; cases h2
  · rw [done_ne (by omega), r11] at h2; cases h2
  · rw [done_eq] at h2; cases h2
  · rw [done_ne (by omega), r9] at h2; cases h2
  · rw [done_ne (by omega), r10] at h2; cases h2
theorem MW.nil (h : MW s b0 SA SB SC D x y) (h8 : D 8 = true) : MW s b0 SA SB SC (done D 9) (setX x 9 (ptr s)) y := by
  refine ⟨⟨done_mono h.d.1, done_mono h.d.2.1, done_mono h.d.2.2⟩, h.bx, fun h2 => ?_, fun h2 h3 => ?_, fun h2 => ?_, fun h2 => ?_, fun _ => (by rw [setX_eq]), fun h2 => ?_⟩
  · rw [done_ne (by omega), h8] at h2; cases h2
  · rw [done_ne (by omega)] at h3; rw [setX_ne (by omega)]; exact h.b h8 h3
  · rw [done_ne (by omega)] at h2; exact h.c h2
  · rw [done_ne (by omega), h8] at h2; cases h2
  · rw [done_ne (by omega)] at h2; rw [setX_ne (by omega)]; exact h.p10 h2
theorem MW.field (h : MW s b0 SA SB SC D x y) (h8 : D 8 = true) : MW s b0 SA SB SC (done D 10) (setX x 10 (.pointer (some ⟨s, 11, none⟩))) y := by
  refine ⟨⟨done_mono h.d.1, done_mono h.d.2.1, done_mono h.d.2.2⟩, h.bx, fun h2 => ?_, fun h2 h3 => ?_, fun h2 => ?_, fun h2 => ?_, fun h2 => ?_, fun _ => (by rw [setX_eq])⟩
  · rw [done_ne (by omega), h8] at h2; cases h2
  · rw [done_ne (by omega)] at h3; rw [setX_ne (by omega)]; exact h.b h8 h3
  · rw [done_ne (by omega)] at h2; exact h.c h2
  · rw [done_ne (by omega), h8] at h2; cases h2
  · rw [done_ne (by omega)] at h2; rw [setX_ne (by omega)]; exact h.p9 h2
theorem MW.last (h : MW s b0 SA SB SC D x y) (h8 : D 8 = true) (hb : z.heap[b0]? = some (.cells #[ptr s] 24 (0, 0))) (hC : SC z) : MW s b0 SA SB SC (done D 11) (setX x 11 u) z := by
  refine ⟨⟨done_mono h.d.1, done_mono h.d.2.1, done_mono h.d.2.2⟩, hb, fun h2 => ?_, fun h2 h3 => ?_, fun _ => hC, fun h2 => ?_, fun h2 => ?_, fun h2 => ?_⟩
  · rw [done_ne (by omega), h8] at h2; cases h2
  · rw [done_eq] at h3; cases h3
  · rw [done_ne (by omega), h8] at h2; cases h2
  · rw [done_ne (by omega)] at h2; rw [setX_ne (by omega)]; exact h.p9 h2
  · rw [done_ne (by omega)] at h2; rw [setX_ne (by omega)]; exact h.p10 h2
end
/-- ahead of the append to those that wait -/
structure PW (w : World) (s tb db : Nat) (va vw : Value) (A W : List OpG) (F : Nat → Prop) (o : OpG) (y : World) : Prop where
  st : StoreG y s tb db va vw A A (knownV A) W (A ++ W ++ [o]) (fun x => F x ∧ x < w.heap.size)
  ac : AC F w s o y
theorem PW.later {w : World} {s tb db : Nat} {va vw : Value} {A W : List OpG} {F : Nat → Prop} {o : OpG} {y z : World} (h : PW w s tb db va vw A W F o y) (b : Below y.heap.size y z) : PW w s tb db va vw A W F o z := ⟨h.st.later b, h.ac.later b⟩
def WA (w : World) (s tb db : Nat) (va vw : Value) (A W : List OpG) (F : Nat → Prop) (o : OpG) (v : Value) (y : World) : Prop :=
  ∃ g cap z, v = .slice (some ⟨g, 0, none⟩) (W ++ [o]).length cap ∧ PW w s tb db va vw A W F o z ∧ OwnO y 0 v (W ++ [o]) ∧ z.grownBy y vw.ownBlock
def WB (w : World) (s tb db : Nat) (va vw : Value) (A W : List OpG) (F : Nat → Prop) (o : OpG) (v : Value) (y : World) : Prop :=
  ∃ ao n c z S, v = .slice ao n c ∧ PW w s tb db va vw A W F o z ∧ SortOf (W ++ [o]) S ∧ OwnO y 0 v S ∧ Ch (fun x => some x = vw.ownBlock) z y ∧ ∀ b, v.ownBlock = some b → z.heap.size ≤ b
def WC (w : World) (s tb db : Nat) (va : Value) (A W : List OpG) (F : Nat → Prop) (o : OpG) (y : World) : Prop :=
  ∃ v2 S, SortOf (W ++ [o]) S ∧ StoreG y s tb db va v2 A A (knownV A) S (A ++ W ++ [o]) (fun x => F x ∨ w.heap.size ≤ x) ∧ Ch F w y
section
variable {w : World} {s tb db : Nat} {va vw : Value} {A W : List OpG} {F : Nat → Prop} {o : OpG} {v : Value} {y z : World}
theorem WA.bx (h : WA w s tb db va vw A W F o v y) : y.heap[w.heap.size]? = some (.cells #[ptr s] 24 (0, 0)) := by
  obtain ⟨g, cap, z, rfl, hz, -, hg⟩ := h
  exact (Ch.of_grown hg).at hz.ac.sb (fun e => by have := (hz.st.nW _ e.symm).2.2.2.1.2; omega)
theorem WB.bx (h : WB w s tb db va vw A W F o v y) : y.heap[w.heap.size]? = some (.cells #[ptr s] 24 (0, 0)) := by
  obtain ⟨ao, n, c, z, S, rfl, hz, -, -, hg, -⟩ := h
  exact hg.at hz.ac.sb (fun e => by have := (hz.st.nW _ e.symm).2.2.2.1.2; omega)
theorem WB.top (h : WB w s tb db va vw A W F o v y) : y.heap[s]? = some (.cells (stC va vw tb db (knownV A)) 55 (0, 0)) := by
  obtain ⟨ao, n, c, z, S, rfl, hz, -, -, hg, -⟩ := h
  exact hg.at hz.st.top (fun e => (hz.st.nW _ e.symm).1 rfl)
theorem WB.put (h : WB w s tb db va vw A W F o v y) : WC w s tb db va A W F o (y.setCell ⟨s, 11, none⟩ v) := by
  have ht := h.top
  obtain ⟨ao, n, c, z, S, rfl, hz, hS, ho, hg, hv⟩ := h
  have hsw : s < w.heap.size := hz.st.fs.1.2
  have cs : Ch (fun x => x = s) y (y.setCell ⟨s, 11, none⟩ (.slice ao n c)) := (Ch.refl (fun x => x = s) y).setCell ⟨s, 11, none⟩ _ (fun _ => rfl)
  have hsz := hz.ac.ch.size
  have hp := hz.st.putW (w := z) (v2 := .slice ao n c) (W' := S) (Below.refl _ _) ((hg.mono (fun x _ e => Or.inl e)).trans cs (fun x _ e => .inr e)) (by rw [blk_set ht]; rfl) (ho.ch cs (fun b hb e => by have := hv b hb; omega)) (fun b hb => .inr (hv b hb))
  exact ⟨_, S, hS, hp.1.mono (fun x hx => hx.elim (fun h => .inl h.1) (fun h => .inr (by omega))), hz.ac.ch.trans hp.2 (fun x _ h => h.1)⟩
end
set_option maxHeartbeats 16000000 in
set_option maxRecDepth 100000 in
theorem add_any (w : World) (s : Nat) (A W : List OpG) (F : Nat → Prop) (hS : StoreIs w s A W F) (hst : Cz.Stb MO A W) (hlen : A.length + W.length < 4000) (o : OpG) (hf : o.fine) : Calls Tryd.prog 10 #[ptr s, o.val] w (AddT s A W F o w) := by
  have HS := Lib.hid hS
  have HST := Lib.hid hst
  have HL := Lib.hid hlen
  have HOK := Lib.hid (show MO.ok o ↔ o.rightP = true from ⟨fun h => h.1, fun h => ⟨h, hf⟩⟩)
  have HRT := Lib.hid (fun z => opsRight_any o hf z)
  obtain ⟨tb, db, va, vw, hG⟩ := hS
  obtain ⟨ao, c, rfl, -, -⟩ := hG.wait.at'
  obtain ⟨ao2, c2, rfl, hc2, -⟩ := hG.all.at'
  have HG := Lib.hid hG
  obtain ⟨N, hN⟩ : ∃ N, (A ++ W).length = N := ⟨_, rfl⟩
  obtain ⟨M, hM⟩ : ∃ M, W.length = M := ⟨_, rfl⟩
  have HN := Lib.hid hN
  have HM := Lib.hid hM
  rw [hM] at HG
  have d4 : ((N : Int) == 4000) = false := bne_i (by have := hlen; simp at hN; omega)
  clear hst hlen hf hG hN hM hc2
  refine callsIn_wide.1 (callsIn_of_wp_marks (n := 3) (F := Fence.wide) Tryd.func10 rfl trivial (wpIn_wide.2 ?_) rfl)
  simp only [Tryd.ntmps10, List.size_toArray, List.length_cons, List.length_nil, Nat.reduceAdd, Nat.reduceSub, Array.replicate_succ, Array.replicate_zero, List.push_toArray, List.append_toArray, List.nil_append, List.cons_append]
  go_upto_region 1 with fail
  refine wp_let' (AB w s o) (AB.new w s o) (fun y0 hy0 => ?_)
  have HA0 := Lib.hid hy0
  clear hy0
  have b0 := blk_cell HA0.out.sb 0
  go_upto_if 8 with fail
  go_upto_region 3 with fail
  have HR0 := Lib.hid (HRT.out y0)
  clear HRT
  cases hR : o.rightP with
  | false =>
    rw [hR] at HR0 HOK
    go_wp2_with (first | (refine wpList_load_whole (.tmp 3) 39 rfl rfl (w.heap.size + 1) o.cells rfl Tryd.underlying39 (by kernel_rfl) HA0.out.ob ?_) | (go_at_call 21; with_reducible refine HR0.out.mono ?_; rintro e y2 ⟨rfl, hb⟩; have HB2 := Lib.hid hb; clear hb))
    refine marks_ret (v := .tuple #[.slice none 0 0, .int .i64 71]) (by kernel_rfl) rfl ?_
    exact AddT.same HS.out (HA0.out.later HB2.out).b (.bad (fun h => (by have := HOK.out.1 h; cases this)))
  | true =>
    rw [hR] at HR0 HOK
    have HK := Lib.hid (HOK.out.2 rfl)
    have HRP := Lib.hid (right_parts hR).1
    clear HOK hR
    go_upto_region 5 with (first | (refine wpList_load_whole (.tmp 3) 39 rfl rfl (w.heap.size + 1) o.cells rfl Tryd.underlying39 (by kernel_rfl) HA0.out.ob ?_) | (go_at_call 21; with_reducible refine HR0.out.mono ?_; rintro e y2 ⟨rfl, hb⟩; have HB2 := Lib.hid hb; clear hb))
    have HA2 := Lib.hid ((HA0.out.later HB2.out).later (Below.refl _ _).drew)
    clear HA0 HR0 b0 HB2
    have b0 := blk_cell HA2.out.sb 0
    have c0 : y2.drew.cell? ⟨w.heap.size + 1, 0, none⟩ = some (.int .i64 o.n) := blk_cell HA2.out.ob 0
    have c1 : y2.drew.cell? ⟨w.heap.size + 1, 1, none⟩ = some (.int .i64 o.r) := blk_cell HA2.out.ob 1
    have t1 := blk_cell (HG.out.later HA2.out.b).top 1
    have hlk := (HG.out.later HA2.out.b).lookT o.n o.r
    by_cases hin : (o.n, o.r) ∈ Cz.ids MO (A ++ W)
    · rw [decide_eq_true hin] at hlk
      have HIN := Lib.hid hin
      clear hin
      go_region
      go_wp2_with fail
      refine marks_ret (v := .tuple #[.slice none 0 0, .int .i64 0]) (by kernel_rfl) rfl ?_
      exact AddT.same HS.out HA2.out.b (.there HK.out HIN.out)
    · rw [decide_eq_false hin] at hlk
      have HIN := Lib.hid hin
      clear hin
      go_region
      clear hlk c0 c1 t1 b0
      generalize y2.drew = y2 at *
      go_upto_region 7 with fail
      have b0 := blk_cell HA2.out.sb 0
      have HB := Lib.hid HA2.out.b
      have HLA := Lib.hid (fun g hg => late_any y2 s A W (A ++ W) F (HS.out.later HB.out) o HRP.out.2.2.1 HRP.out.2.2.2 g hg)
      by_cases hl : Cz.Late MO A o
      · have HLT := Lib.hid hl
        have HL2 := Lib.hid (HLA.out true (decide_eq_true hl).symm)
        clear hl HLA
        go_wp2_with (first | (refine wpList_load_whole (.tmp 3) 39 rfl rfl (w.heap.size + 1) o.cells rfl Tryd.underlying39 (by kernel_rfl) HA2.out.ob ?_) | (go_at_call 22; with_reducible refine HL2.out.mono ?_; rintro e y3 ⟨rfl, hb⟩; have HB2 := Lib.hid hb; clear hb))
        refine marks_ret (v := .tuple #[.slice none 0 0, .int .i64 101]) (by kernel_rfl) rfl ?_
        exact AddT.same HS.out (HA2.out.later HB2.out).b (.late HK.out HIN.out HLT.out)
      · have HLT := Lib.hid hl
        have HL2 := Lib.hid (HLA.out false (decide_eq_false hl).symm)
        clear hl HLA
        go_upto_region 9 with (first | (refine wpList_load_whole (.tmp 3) 39 rfl rfl (w.heap.size + 1) o.cells rfl Tryd.underlying39 (by kernel_rfl) HA2.out.ob ?_) | (go_at_call 22; with_reducible refine HL2.out.mono ?_; rintro e y3 ⟨rfl, hb⟩; have HB2 := Lib.hid hb; clear hb))
        have HA3 := Lib.hid (HA2.out.later HB2.out)
        clear b0 HL2 HB2 HB HA2
        have b0 := blk_cell HA3.out.sb 0
        have t1 := blk_cell (HG.out.later HA3.out.b).top 1
        have hln := (HG.out.later HA3.out.b).there.len (P := Tryd.prog) Tryd.underlying53 3
        rw [HN.out] at hln
        go_upto_region 11 with fail
        clear hln t1 d4 HN
        have HRA := Lib.hid (fun g hg => ready_any y3 s A W (A ++ W) F (HS.out.later HA3.out.b) o HRP.out.2.2.1 HRP.out.2.2.2 g hg)
        by_cases hrd : Cz.Ready MO A o
        · have HRD := Lib.hid hrd
          have HR2 := Lib.hid (HRA.out true (decide_eq_true hrd).symm)
          clear hrd HRA
          go_upto_region 13 with (first | (refine wpList_load_whole (.tmp 3) 39 rfl rfl (w.heap.size + 1) o.cells rfl Tryd.underlying39 (by kernel_rfl) HA3.out.ob ?_) | (go_at_call 23; with_reducible refine HR2.out.mono ?_; rintro e y4 ⟨rfl, hb⟩; have HB2 := Lib.hid hb; clear hb))
          have HA4 := Lib.hid ((HA3.out.later HB2.out).later (Below.refl _ _).drew)
          clear HB2 b0 HA3 HR2
          have hS4 := HG.out.bnd.later HA4.out.b
          have b0 := blk_cell HA4.out.sb 0
          have c0 : y4.drew.cell? ⟨w.heap.size + 1, 0, none⟩ = some (.int .i64 o.n) := blk_cell HA4.out.ob 0
          have c1 : y4.drew.cell? ⟨w.heap.size + 1, 1, none⟩ = some (.int .i64 o.r) := blk_cell HA4.out.ob 1
          have t1 := blk_cell hS4.top 1
          obtain ⟨w1, hrun, hst1, ch1⟩ := hS4.addT o HIN.out
          have HS1 := Lib.hid hst1
          have htb := hS4.fs.2.1
          have HA5 := Lib.hid ((HA4.out.ac (F := F)).step ch1 (fun x _ e => e ▸ htb.1) (fun e => by have := htb.2; omega) (fun e => by have := htb.2; omega))
          clear hst1 ch1 hS4 htb
          go_region
          clear hrun b0 c0 c1 t1 HA4
          go_upto_region 14 with fail
          have b0 := blk_cell HA5.out.sb 0
          have HR5 := Lib.hid (ready_any w1 s A W (A ++ W ++ [o]) _ ⟨tb, db, _, _, HS1.out⟩ o HRP.out.2.2.1 HRP.out.2.2.2 true (decide_eq_true HRD.out).symm)
          go_upto_region 17 with (first | (refine wpList_load_whole (.tmp 3) 39 rfl rfl (w.heap.size + 1) o.cells rfl Tryd.underlying39 (by kernel_rfl) HA5.out.ob ?_) | (go_at_call 23; with_reducible refine HR5.out.mono ?_; rintro e y5 ⟨rfl, hb⟩; have HB2 := Lib.hid hb; clear hb))
          clear b0 HR5
          have HA6 := Lib.hid (HA5.out.later HB2.out)
          have HS6 := Lib.hid (HS1.out.later HB2.out)
          clear HB2 HA5 HS1
          have b0 := blk_cell HA6.out.sb 0
          have t0 := blk_cell HS6.out.top 0
          have hnoA : o.id ∉ Cz.ids MO A := fun h => HIN.out (by rw [Cz.ids_app]; exact List.mem_append.2 (.inl h))
          have HDV := Lib.hid (deliver_any y5 s A W (A ++ W ++ [o]) _ ⟨tb, db, _, _, HS6.out⟩ o (by have := HL.out; omega) hnoA)
          clear hnoA
          go_upto_region 19 with (first | (refine wpList_load_whole (.tmp 3) 39 rfl rfl (w.heap.size + 1) o.cells rfl Tryd.underlying39 (by kernel_rfl) HA6.out.ob ?_) | (go_at_call 25; with_reducible refine HDV.out.mono ?_; rintro e y6 ⟨rfl, hst, hch⟩; have HST6 := Lib.hid hst; have HCH6 := Lib.hid hch; clear hst hch))
          have HA7 := Lib.hid (HA6.out.step HCH6.out (fun x _ e => e.1) (fun e => by have := e.2; omega) (fun e => by have := e.2; omega))
          have HB6 := Lib.hid (show w.heap.size + 2 ≤ y5.heap.size by have := heap_lt HA6.out.ob; omega)
          clear b0 t0 HDV HA6 HS6 HCH6
          have b0 := blk_cell HA7.out.sb 0
          go_wp2_with (go_at_call 26; with_reducible refine (nextf_any y6 s).mono ?_; rintro e y7 ⟨rfl, hy7⟩; have HY7 := Lib.hid hy7; clear hy7)
          clear b0
          have hT6 := HST6.out.bnd
          have hb7 : Below y6.heap.size y6 y7 := by rw [HY7.out]; exact (Below.refl _ _).alloc (Nat.le_refl _) _
          have hs7 : y7.heap.size = y6.heap.size + 1 := by rw [HY7.out]; simp
          have hbx : y7.heap[y6.heap.size]? = some (.cells #[ptr s] 24 (0, 0)) := by rw [HY7.out]; exact blk_new _ _
          have HA8 := Lib.hid (HA7.out.later hb7)
          have HS7 := Lib.hid hs7
          have HPI := Lib.hid (show PI (A ++ [o]) W from ⟨fun x hx => (right_parts (HST.out.ok x (List.mem_append.2 (.inr hx))).1).1.2.2, nd_new HST.out.nodup HIN.out, by have := HL.out; simp; omega⟩)
          refine wp_act (fun b hb => ?_)
          refine (wpIn_wide (n := 3)).1 (loop_any s y6.heap.size w.heap.size (A ++ [o]) W (A ++ W ++ [o]) (fun x => (F x ∧ x < w.heap.size ∨ y5.heap.size ≤ x) ∧ x < y6.heap.size) (by decide) (by subst hb; kernel_rfl) (hT6.later hb7) HPI.out (fun h => by have := h.2; omega) hbx (fun h => by have := HB6.out; rcases h.1 with h | h <;> omega) HA8.out.sb (fun x q => { tmps := (b.tmps.setIfInBounds 78 x.val).setIfInBounds 7 (ptr q), defers := [] }) ?_ ?_ ?_)
          · intro l x z K hK
            subst hb
            refine wpIn_region ?_
            show wpOpsIn _ _ _ _ _ [0, 1] _ _
            refine opsIn_value (some 7) rfl rfl rfl (fun _ => trivial) (fun _ h => by cases h) (exec_allocO rfl) ?_
            refine opsIn_skip none rfl rfl rfl (fun _ => trivial) (fun _ h => by cases h) (exec_store (.tmp 7) (.tmp 78) rfl (ad := ptr z.heap.size) (v := x.val) (by kernel_rfl) (by kernel_rfl) (run_storeAt_new z 39 zeroO x.cells (by kernel_rfl) rfl (by kernel_rfl))) ?_
            exact hK _ (blk_new _ _) ((Below.refl _ _).alloc (Nat.le_refl _) _)
          · intro l q x z A1 W1 G hq hab hst hno hle
            subst hb
            have HDL := Lib.hid (deliver_any z s A1 W1 _ G hst x hle hno)
            clear hst
            refine wpIn_block (wpIn_region ?_)
            show wpOpsIn _ _ _ _ _ [0, 1, 2] _ _
            refine opsIn_value (some 79) rfl rfl rfl (fun _ => trivial) (fun _ h => by cases h) (exec_loadp (.tmp 2) rfl (ad := ptr w.heap.size) (v := ptr s) (by kernel_rfl) (by have := blk_cell hab 0; simp [go_sem, this])) ?_
            refine opsIn_value (some 80) rfl rfl rfl (fun _ => trivial) (fun _ h => by cases h) (exec_load_at z (.tmp 7) 39 rfl (b := q) (off := 0) (cs := x.cells) (by kernel_rfl) Tryd.underlying39 (by kernel_rfl) (blk_load hq)) ?_
            refine opsIn_call (some 81) rfl rfl rfl (fun _ => trivial) rfl (fun _ h => by cases h) (exec_call rfl (vs := [ptr s, x.val]) (by kernel_rfl) (enters_of Tryd.func25 (by kernel_rfl) rfl)) ((callsIn_wide.2 HDL.out).inRound l) ?_
            rintro e z1 ⟨rfl, h1, h2⟩
            exact ⟨_, rfl, rfl, h1, h2⟩
          · intro A1 W1 z hD hst hpi hch hsz hdf
            subst hb
            have HD := Lib.hid (And.intro hD (And.intro hst (And.intro hpi (And.intro hch (And.intro hsz hdf)))))
            clear hD hst hpi hch hsz hdf hs7 hb7 hbx hT6
            obtain ⟨G2, hG2⟩ : ∃ G2 : Nat → Prop, G2 = fun x => (F x ∧ x < w.heap.size ∨ y5.heap.size ≤ x) ∧ x < y6.heap.size ∨ y7.heap.size + 2 ≤ x := ⟨_, rfl⟩
            have h56 : w.heap.size + 2 ≤ y6.heap.size := heap_lt HA7.out.ob
            have h5 := HB6.out
            have h7 := HS7.out
            have hGa : ¬ G2 w.heap.size := by rw [hG2]; rintro (h | h); rcases h.1 with h | h <;> omega; omega
            have hGb : ¬ G2 (w.heap.size + 1) := by rw [hG2]; rintro (h | h); rcases h.1 with h | h <;> omega; omega
            have hGd : ¬ G2 y7.heap.size := by rw [hG2]; rintro (h | h); omega; omega
            have hGF : ∀ x, x < w.heap.size → G2 x → F x := fun x hx h => by rw [hG2] at h; rcases h with h | h; rcases h.1 with h | h; exact h.1; omega; omega
            have hst := HD.out.2.1
            have hAZ : AC F w s o z := HA8.out.step HD.out.2.2.2.1 (fun x hx h => by rcases h.1 with h | h; exact h.1; omega) (fun h => by rcases h.1 with h | h <;> omega) (fun h => by rcases h.1 with h | h <;> omega)
            have hzs := HD.out.2.2.2.1.size
            have hdf := heap_lt HD.out.2.2.2.2.2
            rw [← hG2] at hst
            have hGz : ∀ x, z.heap.size ≤ x → G2 x := fun x hx => by rw [hG2]; right; have := HD.out.2.2.2.2.1; omega
            have HG2 := Lib.hid (And.intro hGa (And.intro hGb (And.intro hGd hGF)))
            obtain ⟨tb2, db2, va2, vw2, hZ⟩ := hst.perm (perm_new HD.out.1.drn.perm)
            obtain ⟨ao4, c4, rfl, -, -⟩ := hZ.wait.at'
            have hdz : Below z.heap.size z z.drew := (Below.refl _ _).drew
            have HDF := Lib.hid (delf_any z.drew w.heap.size s tb2 db2 va2 _ A1 W1 G2 (hZ.later hdz) HD.out.2.2.1.rep HD.out.2.2.1.nd (by have := HD.out.2.2.1.len; omega) hAZ.sb hGa hGz)
            have HZ := Lib.hid (hZ.later hdz)
            have HAZ := Lib.hid hAZ
            obtain ⟨K1, hK1⟩ : ∃ K1, W1.length = K1 := ⟨_, rfl⟩
            rw [hK1] at HDF HZ
            have b0 : z.drew.cell? ⟨w.heap.size, 0, none⟩ = some (ptr s) := blk_cell hAZ.sb 0
            have t11 := blk_cell HZ.out.top 11
            clear hG2 hGa hGb hGd hGF hGz hst hAZ hzs hdf hZ hdz hK1 h56 h5 h7
            go_upto_region 22 with fail
            go_cut [] from 8 (fun y => ∃ v2, StoreG y s tb2 db2 va2 v2 A1 A1 (knownV A1) (keepL A1 W1) (A1 ++ keepL A1 W1) G2 ∧ Ch G2 z y)
            case first =>
              refine wp_act (fun b hb => ?_)
              have e2 : b.tmps.getD 2 undef = ptr w.heap.size := by subst hb; kernel_rfl
              have es : b.tmps.size = 98 := by subst hb; kernel_rfl
              have HB := Lib.hid hb
              clear hb b0
              refine wp_region_inv (by kernel_rfl) (by kernel_rfl) (by kernel_rfl) (RM (fun i => if i = 3 then .pointer (some ⟨s, 11, none⟩) else if i = 8 then .pointer (some ⟨s, 11, none⟩) else if i = 4 then .slice ao4 K1 c4 else if i = 5 then .func (.func 28) #[] #[ptr w.heap.size] else ptr s) 9 6 4 (fun y => y = z.drew) (fun v y => ∃ ao n c, v = .slice ao n c ∧ StoreN y s tb2 db2 va2 (.slice ao4 K1 c4) A1 A1 (knownV A1) (A1 ++ keepL A1 W1) G2 ∧ OwnO y 0 (.slice ao n c) (keepL A1 W1) ∧ Ch G2 z.drew y ∧ (∀ b, (Value.slice ao n c).ownBlock = some b → (Value.slice ao4 K1 c4).ownBlock = some b)) (fun y => ∃ v2, StoreG y s tb2 db2 va2 v2 A1 A1 (knownV A1) (keepL A1 W1) (A1 ++ keepL A1 W1) G2 ∧ Ch G2 z y)) ?_ ?_ ?_
              · exact ⟨fun i _ _ h => (by cases h), fun _ => rfl, fun h => (by cases h), fun h => (by cases h), fun h => (by cases h), fun h => (by cases h), fun h => (by cases h)⟩
              · intro i p hp D x y hD hdep hR K hK
                have hPB : ∀ (h : D 9 = false), y.heap[w.heap.size]? = some (.cells #[ptr s] 24 (0, 0)) := fun h => by
                  cases e : D 6 with
                  | false => rw [hR.p e]; exact HAZ.out.sb
                  | true =>
                    obtain ⟨_, _, _, _, _, _, h3, _⟩ := hR.a e h
                    exact h3.at HAZ.out.sb HG2.out.1
                rcases i with _ | _ | _ | _ | _ | _ | _ | _ | _ | _ | i
                · simp only [List.getElem?_toArray, List.getElem?_cons_succ, List.getElem?_cons_zero, Option.some.injEq, Nat.zero_add] at hp
                  subst hp
                  refine step_load rfl (.tmp 2) rfl (puts_eval0 x 2 _ _ e2 (by kernel_rfl)) (run_loadAB (hPB (hR.off (i := 0) (by omega) hD))) (hK _ _ (hR.keep (i := 0) (by omega) (by omega) hD (fun h => by cases h)))
                · simp only [List.getElem?_toArray, List.getElem?_cons_succ, List.getElem?_cons_zero, Option.some.injEq, Nat.zero_add] at hp
                  subst hp
                  refine step_load rfl (.tmp 2) rfl (puts_eval0 x 2 _ _ e2 (by kernel_rfl)) (run_loadAB (hPB (hR.off (i := 1) (by omega) hD))) (hK _ _ (hR.keep (i := 1) (by omega) (by omega) hD (fun h => by cases h)))
                · simp only [List.getElem?_toArray, List.getElem?_cons_succ, List.getElem?_cons_zero, Option.some.injEq, Nat.zero_add] at hp
                  subst hp
                  refine step_nil rfl (.tmp 83) rfl ((puts_eval x 83 _ _ (by kernel_rfl) (by rw [es]; decide) (i := 1) (by kernel_rfl)).trans (hR.v 1 (by omega) (by omega) (hdep ⟨1, .data⟩ (by simp) rfl))) (hK _ _ (hR.keep (i := 2) (by omega) (by omega) hD (fun h => by cases h)))
                · simp only [List.getElem?_toArray, List.getElem?_cons_succ, List.getElem?_cons_zero, Option.some.injEq, Nat.zero_add] at hp
                  subst hp
                  refine step_field rfl (.tmp 84) rfl ((puts_eval x 84 _ _ (by kernel_rfl) (by rw [es]; decide) (i := 2) (by kernel_rfl)).trans (hR.v 2 (by omega) (by omega) (hdep ⟨2, .data⟩ (by simp) rfl))) (by kernel_rfl) (hK _ _ (hR.keep (i := 3) (by omega) (by omega) hD (fun h => by cases h)))
                · simp only [List.getElem?_toArray, List.getElem?_cons_succ, List.getElem?_cons_zero, Option.some.injEq, Nat.zero_add] at hp
                  subst hp
                  have d6 := hR.before hD
                  have hP := hR.p d6
                  subst hP
                  refine step_load rfl (.tmp 85) rfl ((puts_eval x 85 _ _ (by kernel_rfl) (by rw [es]; decide) (i := 3) (by kernel_rfl)).trans (hR.v 3 (by omega) (by omega) (hdep ⟨3, .data⟩ (by simp) rfl))) (run_loadS1 t11) (hK _ _ (hR.keep (i := 4) (by omega) (by omega) hD (fun h => by cases h)))
                · simp only [List.getElem?_toArray, List.getElem?_cons_succ, List.getElem?_cons_zero, Option.some.injEq, Nat.zero_add] at hp
                  subst hp
                  refine step_run rfl (run_mk rfl ((puts_eval0 x 2 _ _ e2 (by kernel_rfl)))) (hK _ _ (hR.keep (i := 5) (by omega) (by omega) hD (fun h => by cases h)))
                · simp only [List.getElem?_toArray, List.getElem?_cons_succ, List.getElem?_cons_zero, Option.some.injEq, Nat.zero_add] at hp
                  subst hp
                  have hP := hR.p hD
                  subst hP
                  refine step_call rfl rfl (vs := [.slice ao4 K1 c4, .func (.func 28) #[] #[ptr w.heap.size]]) (by
                    rw [show ([Operand.tmp 86, Operand.tmp 87].map (puts x _ 0 b).eval) = [(puts x _ 0 b).eval (.tmp 86), (puts x _ 0 b).eval (.tmp 87)] from rfl, (puts_eval x 86 _ _ (by kernel_rfl) (by rw [es]; decide) (i := 4) (by kernel_rfl)).trans (hR.v 4 (by omega) (by omega) (hdep ⟨4, .data⟩ (by simp) rfl)), (puts_eval x 87 _ _ (by kernel_rfl) (by rw [es]; decide) (i := 5) (by kernel_rfl)).trans (hR.v 5 (by omega) (by omega) (hdep ⟨5, .data⟩ (by simp) rfl))]
                    rfl) (enters_of Tryd.func27 (by kernel_rfl) rfl) HDF.out (fun e z1 ⟨ao5, n5, c5, he, h1⟩ => ⟨_, he, hK _ _ (hR.call (by omega) hD (hdep ⟨4, .data⟩ (by simp) rfl) (by decide) ⟨ao5, n5, c5, rfl, h1⟩)⟩)
                · simp only [List.getElem?_toArray, List.getElem?_cons_succ, List.getElem?_cons_zero, Option.some.injEq, Nat.zero_add] at hp
                  subst hp
                  refine step_nil rfl (.tmp 82) rfl ((puts_eval x 82 _ _ (by kernel_rfl) (by rw [es]; decide) (i := 0) (by kernel_rfl)).trans (hR.v 0 (by omega) (by omega) (hdep ⟨0, .data⟩ (by simp) rfl))) (hK _ _ (hR.keep (i := 7) (by omega) (by omega) hD (fun h => by cases h)))
                · simp only [List.getElem?_toArray, List.getElem?_cons_succ, List.getElem?_cons_zero, Option.some.injEq, Nat.zero_add] at hp
                  subst hp
                  refine step_field rfl (.tmp 89) rfl ((puts_eval x 89 _ _ (by kernel_rfl) (by rw [es]; decide) (i := 7) (by kernel_rfl)).trans (hR.v 7 (by omega) (by omega) (hdep ⟨7, .data⟩ (by simp) rfl))) (by kernel_rfl) (hK _ _ (hR.keep (i := 8) (by omega) (by omega) hD (fun _ => hdep ⟨7, .data⟩ (by simp) rfl)))
                · simp only [List.getElem?_toArray, List.getElem?_cons_succ, List.getElem?_cons_zero, Option.some.injEq, Nat.zero_add] at hp
                  subst hp
                  have hA := hR.a (hdep ⟨6, .data⟩ (by simp) rfl) hD
                  obtain ⟨ao5, n5, c5, h6, h1, h2, h3, h4⟩ := id hA
                  refine step_store1 rfl (.tmp 90) (.tmp 88) rfl ((puts_eval x 90 _ _ (by kernel_rfl) (by rw [es]; decide) (i := 8) (by kernel_rfl)).trans (hR.v 8 (by omega) (by omega) (hdep ⟨8, .data⟩ (by simp) rfl))) ((puts_eval x 88 _ _ (by kernel_rfl) (by rw [es]; decide) (i := 6) (by kernel_rfl)).trans h6) (run_storeO y h1.top (by simp)) (hK _ _ (hR.last (by omega) (by omega) (fun i hi => ?_) (hdep ⟨8, .data⟩ (by simp) rfl) ?_))
                  · rcases (show i = 0 ∨ i = 1 ∨ i = 2 ∨ i = 3 ∨ i = 4 ∨ i = 5 ∨ i = 6 by omega) with rfl | rfl | rfl | rfl | rfl | rfl | rfl
                    · exact hdep ⟨0, .phase⟩ (by simp) rfl
                    · exact hdep ⟨1, .phase⟩ (by simp) rfl
                    · exact hdep ⟨2, .phase⟩ (by simp) rfl
                    · exact hdep ⟨3, .phase⟩ (by simp) rfl
                    · exact hdep ⟨4, .phase⟩ (by simp) rfl
                    · exact hdep ⟨5, .phase⟩ (by simp) rfl
                    · exact hdep ⟨6, .phase⟩ (by simp) rfl
                  · have hp := h1.putW h2 h4 ⟨_, _, _, rfl⟩
                    exact ⟨_, hp.1, ((Ch.refl G2 z).drew.trans h3 (fun x _ h => h)).trans hp.2 (fun x _ h => h)⟩
                · cases hp
              · intro D x y hD hR
                have hf := hR.f (hD 9 (by decide))
                have HF := Lib.hid hf
                clear hR hD e2 es hf
                rw [HB.out]
                simp only [puts, Act.put, List.setIfInBounds_toArray, List.set_cons_zero, List.set_cons_succ]
                go_wp2_with fail
                go_meet
                exact HF.out
            case rest =>
              obtain ⟨v2, hS9, hC9⟩ := hcut
              generalize wc = y9 at *
              obtain ⟨B, hB⟩ := HD.out.1.drn.ext
              obtain ⟨n1, hn1⟩ : ∃ n1, A1.length = n1 := ⟨_, rfl⟩
              have hlt : A.length < n1 := by rw [← hn1, hB]; simp
              have hpl : n1 < 4294967295 := by have := HD.out.2.2.1.len; omega
              obtain ⟨Bq, cq, hva, hcq, hcm, hat⟩ : ∃ Bq cq, va2 = .slice (some ⟨Bq, 0, none⟩) n1 cq ∧ n1 ≤ cq ∧ cq ≤ maxLen ∧ OpsAt y9 (some ⟨Bq, 0, none⟩) A1 := by
                rcases hS9.all.form with ⟨_, h0⟩ | ⟨B', cap', cur, h1, h2, h3, h4, h5, h6, h7⟩
                · rw [h0] at hn1; simp at hn1; omega
                · exact ⟨B', cap', by rw [← hn1]; exact h1, by omega, h5, blk_opsAt h3 h7⟩
              subst hva
              unfold maxLen at hcm
              have hAY : AC F w s o y9 := HAZ.out.step hC9 HG2.out.2.2.2 HG2.out.1 HG2.out.2.1
              have hD9 := hC9.at HD.out.2.2.2.2.2 HG2.out.2.2.1
              have b0 := blk_cell hAY.sb 0
              have t0 := blk_cell hS9.top 0
              have hcl := clone_list y9 (some ⟨Bq, A.length * 26, none⟩) (cq - A.length) (A1.drop A.length) (by have := hat.drop A.length; simpa using this) (by rw [List.length_drop, hn1]; omega) (fun e => by cases e)
              rw [List.length_drop, hn1] at hcl
              have HCL := Lib.hid hcl
              have H9 := Lib.hid (And.intro hS9 (And.intro hC9 (And.intro hAY hD9)))
              have b1 : (0 : Int) ≤ (A.length : Int) := by omega
              have b2 : (A.length : Int) ≤ (n1 : Int) := by omega
              have b3 : (n1 : Int) ≤ (cq : Int) := by omega
              have b4 : (A.length : Int) ≤ (cq : Int) := by omega
              have b5 : ¬ cq = A.length := by omega
              have b6 : ¬ n1 = A.length := by omega
              clear hS9 hC9 hcl hat hAY hD9
              go_wp2_with (go_at_call 29; with_reducible refine HCL.out.mono ?_; rintro e y10 ⟨v, rfl, hv, hb⟩; have HV := Lib.hid (And.intro hv hb); clear hv hb)
              have hD10 := (HV.out.2.block _ (heap_lt H9.out.2.2.2)).trans H9.out.2.2.2
              have cl : Ch (fun x => x = y7.heap.size) y10 (y10.putObj y7.heap.size (.deferred none)) := (Ch.refl _ _).putObj _ _ (fun _ => rfl)
              refine marks_ret1 (D := y7.heap.size) (v := .tuple #[v, .int .i64 0]) rfl (run_takeDeferred hD10) (by kernel_rfl) ?_
              have h56 : w.heap.size + 2 ≤ y6.heap.size := heap_lt HA7.out.ob
              have h7 := HS7.out
              refine ⟨v, A1.drop A.length, 0, A1, keepL A1 W1, rfl, .done HK.out HIN.out HLT.out HRD.out HD.out.1, ?_, ?_, ?_, ?_⟩
              · refine ⟨tb2, db2, _, _, (((H9.out.1.later HV.out.2).ch cl (fun x hx e => HG2.out.2.2.1 (e ▸ hx))).mono (fun x hx => ?_))⟩
                by_cases hxw : x < w.heap.size
                · exact .inl (HG2.out.2.2.2 x hxw hx)
                · exact .inr (by omega)
              · exact (H9.out.2.2.1.later HV.out.2).ch.trans cl (fun x hx e => by omega)
              · refine (HV.out.1.ch cl (fun b hb e => ?_)).base (fun b hb => ?_)
                · have := (World.ownsRow.lt HV.out.1 b hb).1
                  have := heap_lt H9.out.2.2.2
                  omega
                · have := (World.ownsRow.lt HV.out.1 b hb).1
                  have := heap_lt H9.out.2.2.2
                  omega
              · intro b hb
                have := (World.ownsRow.lt HV.out.1 b hb).1
                have := heap_lt H9.out.2.2.2
                omega
        · have HRD := Lib.hid hrd
          have HR2 := Lib.hid (HRA.out false (decide_eq_false hrd).symm)
          clear hrd HRA
          by_cases hM : M = 64
          · have d64 : ((M : Int) == 64) = true := by rw [hM]; rfl
            go_wp2_with (first | (refine wpList_load_whole (.tmp 3) 39 rfl rfl (w.heap.size + 1) o.cells rfl Tryd.underlying39 (by kernel_rfl) HA3.out.ob ?_) | (go_at_call 23; with_reducible refine HR2.out.mono ?_; rintro e y4 ⟨rfl, hb⟩; have HB2 := Lib.hid hb; clear hb; have HA4 := Lib.hid (HA3.out.later HB2.out); have l0 := blk_cell HA4.out.sb 0; have l4 := blk_cell (HG.out.later HA4.out.b).top 11))
            refine marks_ret (v := .tuple #[.slice none 0 0, .int .i64 102]) (by kernel_rfl) rfl ?_
            exact AddT.same HS.out HA4.out.b (.pend HK.out HIN.out HLT.out HRD.out (HM.out.trans hM))
          · have d64 : ((M : Int) == 64) = false := bne_i (by omega)
            have HM64 := Lib.hid (show W.length ≠ 64 by rw [HM.out]; exact hM)
            clear hM
            go_upto_region 13 with (first | (refine wpList_load_whole (.tmp 3) 39 rfl rfl (w.heap.size + 1) o.cells rfl Tryd.underlying39 (by kernel_rfl) HA3.out.ob ?_) | (go_at_call 23; with_reducible refine HR2.out.mono ?_; rintro e y4 ⟨rfl, hb⟩; have HB2 := Lib.hid hb; clear hb; have HA4 := Lib.hid (HA3.out.later HB2.out); have l0 := blk_cell HA4.out.sb 0; have l4 := blk_cell (HG.out.later HA4.out.b).top 11))
            clear l0 l4 b0 HA4
            have HA4 := Lib.hid ((HA3.out.later HB2.out).later (Below.refl _ _).drew)
            clear HB2 HA3 HR2
            have hS4 := HG.out.bnd.later HA4.out.b
            have b0 := blk_cell HA4.out.sb 0
            have c0 : y4.drew.cell? ⟨w.heap.size + 1, 0, none⟩ = some (.int .i64 o.n) := blk_cell HA4.out.ob 0
            have c1 : y4.drew.cell? ⟨w.heap.size + 1, 1, none⟩ = some (.int .i64 o.r) := blk_cell HA4.out.ob 1
            have t1 := blk_cell hS4.top 1
            obtain ⟨w1, hrun, hst1, ch1⟩ := hS4.addT o HIN.out
            have HS1 := Lib.hid hst1
            have htb := hS4.fs.2.1
            have HA5 := Lib.hid ((HA4.out.ac (F := F)).step ch1 (fun x _ e => e ▸ htb.1) (fun e => by have := htb.2; omega) (fun e => by have := htb.2; omega))
            clear hst1 ch1 hS4 htb
            go_region
            clear hrun b0 c0 c1 t1 HA4
            go_upto_region 14 with fail
            have b0 := blk_cell HA5.out.sb 0
            have HR5 := Lib.hid (ready_any w1 s A W (A ++ W ++ [o]) _ ⟨tb, db, _, _, HS1.out⟩ o HRP.out.2.2.1 HRP.out.2.2.2 false (decide_eq_false HRD.out).symm)
            go_upto_region 15 with (first | (refine wpList_load_whole (.tmp 3) 39 rfl rfl (w.heap.size + 1) o.cells rfl Tryd.underlying39 (by kernel_rfl) HA5.out.ob ?_) | (go_at_call 23; with_reducible refine HR5.out.mono ?_; rintro e y5 ⟨rfl, hb⟩; have HB2 := Lib.hid hb; clear hb))
            clear b0 HR5
            have HA6 := Lib.hid (HA5.out.later HB2.out)
            have HS6 := Lib.hid (HS1.out.later HB2.out)
            clear HB2 HA5 HS1
            have HP6 := Lib.hid (show PW w s tb db (.slice ao2 A.length c2) (.slice ao M c) A W F o y5.drew from ⟨HS6.out.later (Below.refl _ _).drew, HA6.out.later (Below.refl _ _).drew⟩)
            go_cut [] from 8 (fun y => WC w s tb db (.slice ao2 A.length c2) A W F o y)
            case first =>
              refine wp_act (fun b hb => ?_)
              have e2 : b.tmps.getD 2 undef = ptr w.heap.size := by subst hb; kernel_rfl
              have e3 : b.tmps.getD 3 undef = ptr (w.heap.size + 1) := by subst hb; kernel_rfl
              have es : b.tmps.size = 98 := by subst hb; kernel_rfl
              have HB := Lib.hid hb
              clear hb
              refine wp_region_inv (by kernel_rfl) (by kernel_rfl) (by kernel_rfl) (RA (fun i => if i = 3 then .pointer (some ⟨s, 11, none⟩) else if i = 4 then .slice ao M c else if i = 5 then o.val else ptr s) (PW w s tb db (.slice ao2 A.length c2) (.slice ao M c) A W F o) o (MW s w.heap.size (WA w s tb db (.slice ao2 A.length c2) (.slice ao M c) A W F o) (WB w s tb db (.slice ao2 A.length c2) (.slice ao M c) A W F o) (WC w s tb db (.slice ao2 A.length c2) A W F o))) ?_ ?_ ?_
              · exact ⟨fun i _ h => (by cases h), fun _ => HP6.out, fun h => (by cases h), fun h => (by cases h), fun _ => ⟨rfl, rfl, rfl, rfl⟩, fun h => (by cases h)⟩
              · intro i p hp D x y hD hdep hR K hK
                have hbx : y.heap[w.heap.size]? = some (.cells #[ptr s] 24 (0, 0)) := by
                  cases h : D 7 with
                  | false => exact (hR.p h).ac.sb
                  | true => exact (hR.a h).bx
                rcases i with _ | _ | _ | _ | _ | _ | _ | _ | _ | _ | _ | _ | i
                · simp only [List.getElem?_toArray, List.getElem?_cons_succ, List.getElem?_cons_zero, Option.some.injEq, Nat.zero_add] at hp
                  subst hp
                  refine step_load rfl (.tmp 2) rfl (puts_eval0 x 2 _ _ e2 (by kernel_rfl)) (run_loadAB hbx) (hK _ _ (hR.keep (i := 0) (by omega) (fun h => h.keep (by omega) _)))
                · simp only [List.getElem?_toArray, List.getElem?_cons_succ, List.getElem?_cons_zero, Option.some.injEq, Nat.zero_add] at hp
                  subst hp
                  refine step_load rfl (.tmp 2) rfl (puts_eval0 x 2 _ _ e2 (by kernel_rfl)) (run_loadAB hbx) (hK _ _ (hR.keep (i := 1) (by omega) (fun h => h.keep (by omega) _)))
                · simp only [List.getElem?_toArray, List.getElem?_cons_succ, List.getElem?_cons_zero, Option.some.injEq, Nat.zero_add] at hp
                  subst hp
                  refine step_nil rfl (.tmp 58) rfl ((puts_eval x 58 _ _ (by kernel_rfl) (by rw [es]; decide) (i := 1) (by kernel_rfl)).trans (hR.v 1 (by omega) (hdep ⟨1, .data⟩ (by simp) rfl))) (hK _ _ (hR.keep (i := 2) (by omega) (fun h => h.keep (by omega) _)))
                · simp only [List.getElem?_toArray, List.getElem?_cons_succ, List.getElem?_cons_zero, Option.some.injEq, Nat.zero_add] at hp
                  subst hp
                  refine step_field rfl (.tmp 59) rfl ((puts_eval x 59 _ _ (by kernel_rfl) (by rw [es]; decide) (i := 2) (by kernel_rfl)).trans (hR.v 2 (by omega) (hdep ⟨2, .data⟩ (by simp) rfl))) (by kernel_rfl) (hK _ _ (hR.keep (i := 3) (by omega) (fun h => h.keep (by omega) _)))
                · simp only [List.getElem?_toArray, List.getElem?_cons_succ, List.getElem?_cons_zero, Option.some.injEq, Nat.zero_add] at hp
                  subst hp
                  have d7 : D 7 = false := by
                    cases h : D 7 with
                    | false => rfl
                    | true => have hd := (hR.a h).d.1; rw [hD] at hd; cases hd
                  refine step_load rfl (.tmp 60) rfl ((puts_eval x 60 _ _ (by kernel_rfl) (by rw [es]; decide) (i := 3) (by kernel_rfl)).trans (hR.v 3 (by omega) (hdep ⟨3, .data⟩ (by simp) rfl))) (run_loadS1 (blk_cell (hR.p d7).st.top 11)) (hK _ _ (hR.keep (i := 4) (by omega) (fun h => h.keep (by omega) _)))
                · simp only [List.getElem?_toArray, List.getElem?_cons_succ, List.getElem?_cons_zero, Option.some.injEq, Nat.zero_add] at hp
                  subst hp
                  have d7 : D 7 = false := by
                    cases h : D 7 with
                    | false => rfl
                    | true => have hd := (hR.a h).d.2.1; rw [hD] at hd; cases hd
                  refine step_load rfl (.tmp 3) rfl (puts_eval0 x 3 _ _ e3 (by kernel_rfl)) (run_loadAt_whole Tryd.underlying39 (by kernel_rfl) (hR.p d7).ac.ob) (hK _ _ (hR.keep (i := 5) (by omega) (fun h => h.keep (by omega) _)))
                · simp only [List.getElem?_toArray, List.getElem?_cons_succ, List.getElem?_cons_zero, Option.some.injEq, Nat.zero_add] at hp
                  subst hp
                  have d5 : D 5 = true := (hdep ⟨5, .data⟩ (by simp) rfl)
                  have d7 : D 7 = false := by
                    cases h : D 7 with
                    | false => rfl
                    | true => have hd := (hR.a h).d.2.2; rw [hD] at hd; cases hd
                  refine step_bs rfl #[(0, .tmp 62)] rfl #[(0, o.val)] (congrArg (fun v => [(0, v)]) ((puts_eval x 62 _ _ (by kernel_rfl) (by rw [es]; decide) (i := 5) (by kernel_rfl)).trans (hR.v 5 (by omega) d5))) (run_bsO o y) (hK _ _ (hR.block d7 d5 (fun z h b => h.later b)))
                · simp only [List.getElem?_toArray, List.getElem?_cons_succ, List.getElem?_cons_zero, Option.some.injEq, Nat.zero_add] at hp
                  subst hp
                  have d4 : D 4 = true := (hdep ⟨4, .data⟩ (by simp) rfl)
                  have d6 : D 6 = true := (hdep ⟨6, .data⟩ (by simp) rfl)
                  obtain ⟨B, h6, hB⟩ := hR.s d6 hD
                  have hP := hR.p hD
                  have d5 : D 5 = true := hR.five d6
                  refine step_wp rfl (wp_appL (.tmp 61) (.tmp 63) rfl 0 (.slice ao M c) W o ((puts_eval x 61 _ _ (by kernel_rfl) (by rw [es]; decide) (i := 4) (by kernel_rfl)).trans (hR.v 4 (by omega) d4)) hP.st.wait B ((puts_eval x 63 _ _ (by kernel_rfl) (by rw [es]; decide) (i := 6) (by kernel_rfl)).trans h6) hB (by have := HM64.out; have := HL.out; omega) (Nat.zero_le _) fun g cap z h1 h2 h3 => hK _ _ ?_)
                  have hWA : WA w s tb db (.slice ao2 A.length c2) (.slice ao M c) A W F o (.slice (some ⟨g, 0, none⟩) (W.length + 1) cap) z := ⟨g, cap, y, (by rw [List.length_append]; rfl), hP, h1, h2⟩
                  refine ⟨fun j hj hd => (by rw [done_ne (by omega)] at hd; rw [setX_ne (by omega)]; exact hR.v j hj hd), fun h => (by rw [done_eq] at h; cases h), fun _ h => (by rw [done_eq] at h; cases h), fun _ => .new d4 d5 d6 (hR.q hD) hWA.bx hWA, fun h => (by rw [done_eq] at h; cases h), fun h => (by rw [done_ne (by omega)] at h ⊢; exact hR.five h)⟩
                · simp only [List.getElem?_toArray, List.getElem?_cons_succ, List.getElem?_cons_zero, Option.some.injEq, Nat.zero_add] at hp
                  subst hp
                  have dd : D 7 = true := (hdep ⟨7, .data⟩ (by simp) rfl)
                  have hM := hR.a dd
                  obtain ⟨g, cap, z, h7, hz, hown, hgr⟩ := id (hM.a hD)
                  rw [h7] at hown
                  refine step_call rfl rfl (vs := [.slice (some ⟨g, 0, none⟩) (W ++ [o]).length cap]) (by
                    rw [show ([Operand.tmp 64].map (puts x _ 0 b).eval) = [(puts x _ 0 b).eval (.tmp 64)] from rfl, (puts_eval x 64 _ _ (by kernel_rfl) (by rw [es]; decide) (i := 7) (by kernel_rfl)).trans h7]) (enters_of Tryd.func24 (by kernel_rfl) rfl) (sort_any y (some ⟨g, 0, none⟩) cap (W ++ [o]) hown.at.2 (by have := HL.out; simp; omega) (fun e => by cases e)) (fun e z1 ⟨v, S, he, hS, ho, hb⟩ => ⟨_, he, hK _ _ (hR.after dd (by omega) ?_)⟩)
                  have hWB : WB w s tb db (.slice ao2 A.length c2) (.slice ao M c) A W F o v z1 := by
                    obtain ⟨ao5, c5, rfl, -, -⟩ := ho.at'
                    exact ⟨_, _, _, z, S, rfl, hz, hS, ho.base (fun _ _ => Nat.zero_le _), (Ch.of_grown hgr).later hb, fun b hb' => Nat.le_trans (Ch.of_grown hgr).size (World.ownsRow.lt ho b hb').1⟩
                  exact hM.sort hD hWB.bx hWB
                · simp only [List.getElem?_toArray, List.getElem?_cons_succ, List.getElem?_cons_zero, Option.some.injEq, Nat.zero_add] at hp
                  subst hp
                  refine step_nil rfl (.tmp 57) rfl ((puts_eval x 57 _ _ (by kernel_rfl) (by rw [es]; decide) (i := 0) (by kernel_rfl)).trans (hR.v 0 (by omega) (hdep ⟨0, .data⟩ (by simp) rfl))) (hK _ _ (hR.after (hdep ⟨7, .phase⟩ (by simp) rfl) (by omega) ((hR.a (hdep ⟨7, .phase⟩ (by simp) rfl)).nil (hdep ⟨8, .phase⟩ (by simp) rfl))))
                · simp only [List.getElem?_toArray, List.getElem?_cons_succ, List.getElem?_cons_zero, Option.some.injEq, Nat.zero_add] at hp
                  subst hp
                  have hM := hR.a (hdep ⟨7, .phase⟩ (by simp) rfl)
                  refine step_field rfl (.tmp 66) rfl ((puts_eval x 66 _ _ (by kernel_rfl) (by rw [es]; decide) (i := 9) (by kernel_rfl)).trans (hM.p9 (hdep ⟨9, .data⟩ (by simp) rfl))) (v := .pointer (some ⟨s, 11, none⟩)) (by kernel_rfl) (hK _ _ (hR.after (hdep ⟨7, .phase⟩ (by simp) rfl) (by omega) (hM.field (hdep ⟨8, .phase⟩ (by simp) rfl))))
                · simp only [List.getElem?_toArray, List.getElem?_cons_succ, List.getElem?_cons_zero, Option.some.injEq, Nat.zero_add] at hp
                  subst hp
                  have dd : D 7 = true := (hdep ⟨7, .phase⟩ (by simp) rfl)
                  have d8 : D 8 = true := (hdep ⟨8, .data⟩ (by simp) rfl)
                  have hM := hR.a dd
                  have hWB := hM.b d8 hD
                  obtain ⟨ao5, n5, c5, z5, S5, h8, -⟩ := id hWB
                  refine step_store1 rfl (.tmp 67) (.tmp 65) rfl ((puts_eval x 67 _ _ (by kernel_rfl) (by rw [es]; decide) (i := 10) (by kernel_rfl)).trans (hM.p10 (hdep ⟨10, .data⟩ (by simp) rfl))) ((puts_eval x 65 _ _ (by kernel_rfl) (by rw [es]; decide) (i := 8) (by kernel_rfl)).trans h8) (run_storeO y hWB.top (by simp)) (hK _ _ (hR.after dd (by omega) ?_))
                  rw [h8] at hWB
                  exact hM.last d8 (blk_other hWB.bx (fun e => by have := HS6.out.fs.1.2; simp at e; omega)) hWB.put
                · cases hp
              · intro D x y hD hR
                have hf := (hR.a (hD 7 (by decide))).c (hD 11 (by decide))
                have HF := Lib.hid hf
                clear hR hD e2 e3 es hf
                rw [HB.out]
                simp only [puts, Act.put, List.setIfInBounds_toArray, List.set_cons_zero, List.set_cons_succ]
                go_wp2_with fail
                go_meet
                exact HF.out
            case rest =>
              have HC := Lib.hid hcut
              generalize wc = y9 at *
              clear hcut
              go_wp2_with fail
              refine marks_ret (v := .tuple #[.slice none 0 0, .int .i64 0]) (by kernel_rfl) rfl ?_
              obtain ⟨v2, S, hS, hst, hch⟩ := HC.out
              have hst2 : StoreT y9 s A S (A ++ S) _ := StoreT.perm ⟨tb, db, _, _, hst⟩ (by rw [List.append_assoc]; exact List.Perm.append_left A (SortOf.perm hS).symm)
              exact ⟨_, [], 0, A, S, rfl, .wait HK.out HIN.out HLT.out HRD.out HM64.out hS, hst2, hch, OwnO.nil _ _, fun b hb => by cases hb⟩
end Go.Proofs.YtiamohfpohjdpaaDoor
