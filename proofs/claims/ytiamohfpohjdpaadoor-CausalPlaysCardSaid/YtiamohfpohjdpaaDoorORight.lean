/- WHETHER AN OPERATION MAY BE, by package ops. -/
import Derived.Test.YtiamohfpohjdpaaDoorOp
import Derived.Test.YtiamohfpohjdpaaDoorOStr
import Derived.Deep.DeepCutAuto
import Derived.Deep.CutRange
import Derived.Test.YtiamohfpohjdpaaDoorStore
import Derived.Deep.RegionHeld3
namespace Go.Proofs.YtiamohfpohjdpaaDoor
open Go.RowKit Go.Joins
set_option linter.unusedSimpArgs false
set_option linter.unusedVariables false

def noneB (n r : Int) : Bool := n == 0 && r == 0
def OpG.hasB (o : OpG) (n r : Int) : Bool := rightB n r && o.d.has n r
def OpG.pre (o : OpG) : Bool := rightB o.n o.r && (decide (0 ≤ Lib.minOf o.d.list) && decide (o.d.most < o.n))
def OpG.fine (o : OpG) : Prop := o.key.size ≤ maxLen ∧ o.name.size ≤ maxLen ∧ o.value.size ≤ maxLen
theorem has_call (o : OpG) (n r : Int) (w : World) : Calls Tryd.prog 42 #[o.val, st n r] w fun e w' => e = .returned (.bool (o.hasB n r)) ∧ Below w.heap.size w w' := by
  have t0 := Tr.nil w
  unfold OpG.hasB
  cases hr : rightB n r with
  | false =>
    have H := fun w => bool_of hr (right0_any n r w)
    have H := Lib.hid H
    go_enter Tryd.func42, Tryd.ntmps42
    go_wp2_with (go_at_call 39; with_reducible refine (H.out _).mono ?_; rintro e w1 ⟨rfl, hb⟩; have t1 := Tr.later (W0 := w) (by repeat (first | with_reducible assumption | with_reducible apply Tr.alloc | with_reducible apply Tr.drew | with_reducible apply Tr.drewN | with_reducible apply Tr.ext | with_reducible apply Tr.other)) hb; have r1 := t1.rules; simp only [Rules, World.size_alloc, World.size_drew, World.size_setCell] at r1; clear hb)
    go_ret
    exact ⟨rfl, Tr.below (W0 := w) (by repeat (first | with_reducible assumption | with_reducible apply Tr.alloc | with_reducible apply Tr.drew | with_reducible apply Tr.drewN | with_reducible apply Tr.ext | with_reducible apply Tr.other))⟩
  | true =>
    have H := fun w => bool_of hr (right0_any n r w)
    have H := Lib.hid H
    have K := Lib.hid (fun w => has_any o.d n r w)
    go_enter Tryd.func42, Tryd.ntmps42
    go_wp2_with (first | (go_at_call 39; with_reducible refine (H.out _).mono ?_; rintro e w1 ⟨rfl, hb⟩; have t1 := Tr.later (W0 := w) (by repeat (first | with_reducible assumption | with_reducible apply Tr.alloc | with_reducible apply Tr.drew | with_reducible apply Tr.drewN | with_reducible apply Tr.ext | with_reducible apply Tr.other)) hb; have r1 := t1.rules; simp only [Rules, World.size_alloc, World.size_drew, World.size_setCell] at r1; clear hb) | (go_at_call 37; with_reducible refine (K.out _).mono ?_; rintro e w1 ⟨rfl, hb⟩; have t1 := Tr.later (W0 := w) (by repeat (first | with_reducible assumption | with_reducible apply Tr.alloc | with_reducible apply Tr.drew | with_reducible apply Tr.drewN | with_reducible apply Tr.ext | with_reducible apply Tr.other)) hb; have r1 := t1.rules; simp only [Rules, World.size_alloc, World.size_drew, World.size_setCell] at r1; clear hb))
    go_ret
    exact ⟨by simp, Tr.below (W0 := w) (by repeat (first | with_reducible assumption | with_reducible apply Tr.alloc | with_reducible apply Tr.drew | with_reducible apply Tr.drewN | with_reducible apply Tr.ext | with_reducible apply Tr.other))⟩
theorem deps_cell (o : OpG) (j : Nat) (hj : j < o.d.list.length) : o.cells[2 + j]? = some (.int .i64 (o.d.list.getD j 0)) := by
  have h8 : j < 8 := hj
  rcases nat8 h8 with rfl | rfl | rfl | rfl | rfl | rfl | rfl | rfl <;> rfl
theorem op_cells {o : OpG} {x : World} {b : Nat} (h : x.heap[b]? = some (.cells o.cells 39 (0, 0))) : x.cell? ⟨b, 0, none⟩ = some (.int .i64 o.n) ∧ x.cell? ⟨b, 1, none⟩ = some (.int .i64 o.r) ∧ x.cell? ⟨b, 2, none⟩ = some (.int .i64 o.d.x0) ∧ x.cell? ⟨b, 3, none⟩ = some (.int .i64 o.d.x1) ∧ x.cell? ⟨b, 4, none⟩ = some (.int .i64 o.d.x2) ∧ x.cell? ⟨b, 5, none⟩ = some (.int .i64 o.d.x3) ∧ x.cell? ⟨b, 6, none⟩ = some (.int .i64 o.d.x4) ∧ x.cell? ⟨b, 7, none⟩ = some (.int .i64 o.d.x5) ∧ x.cell? ⟨b, 8, none⟩ = some (.int .i64 o.d.x6) ∧ x.cell? ⟨b, 9, none⟩ = some (.int .i64 o.d.x7) ∧ x.cell? ⟨b, 10, none⟩ = some (.int .i64 o.kd) ∧ x.cell? ⟨b, 11, none⟩ = some (.int .i64 o.rn) ∧ x.cell? ⟨b, 12, none⟩ = some (.int .i64 o.rr) ∧ x.cell? ⟨b, 13, none⟩ = some (.int .i64 o.side) ∧ x.cell? ⟨b, 14, none⟩ = some (.int .i64 o.ch) ∧ x.cell? ⟨b, 15, none⟩ = some (.int .i64 o.un) ∧ x.cell? ⟨b, 16, none⟩ = some (.int .i64 o.ur) ∧ x.cell? ⟨b, 17, none⟩ = some (.string o.key) ∧ x.cell? ⟨b, 18, none⟩ = some (.string o.name) ∧ x.cell? ⟨b, 19, none⟩ = some (.string o.value) ∧ x.cell? ⟨b, 20, none⟩ = some (.int .i64 o.fn) ∧ x.cell? ⟨b, 21, none⟩ = some (.int .i64 o.fr) ∧ x.cell? ⟨b, 22, none⟩ = some (.bool o.fa) ∧ x.cell? ⟨b, 23, none⟩ = some (.int .i64 o.tn) ∧ x.cell? ⟨b, 24, none⟩ = some (.int .i64 o.tr) ∧ x.cell? ⟨b, 25, none⟩ = some (.bool o.ta) :=
  ⟨blk_cell h 0, blk_cell h 1, blk_cell h 2, blk_cell h 3, blk_cell h 4, blk_cell h 5, blk_cell h 6, blk_cell h 7, blk_cell h 8, blk_cell h 9, blk_cell h 10, blk_cell h 11, blk_cell h 12, blk_cell h 13, blk_cell h 14, blk_cell h 15, blk_cell h 16, blk_cell h 17, blk_cell h 18, blk_cell h 19, blk_cell h 20, blk_cell h 21, blk_cell h 22, blk_cell h 23, blk_cell h 24, blk_cell h 25⟩
def OpBox (o : OpG) (w x : World) : Prop := Below w.heap.size w x ∧ x.heap[w.heap.size]? = some (.cells o.cells 39 (0, 0))
theorem opBox_new (o : OpG) (w : World) : OpBox o w (w.alloc (.cells o.cells 39)) := ⟨(Below.refl _ _).alloc (Nat.le_refl _) _, blk_new _ _⟩
theorem OpBox.ext {o : OpG} {w x : World} (h : OpBox o w x) (n : World) : OpBox o w (ext x n) := ⟨h.1.trans ((ext_below x n).mono h.1.size), ((ext_below x n).block _ (heap_lt h.2)).trans h.2⟩
theorem min_call (o : OpG) {w x : World} (h : OpBox o w x) (n : World) : Calls Tryd.prog 40 #[.slice (some ⟨w.heap.size, 2, none⟩) 8 8] (ext x n) fun e w'' => e = .returned (.int .i64 (Lib.minOf o.d.list)) ∧ ∃ m, w'' = ext x m :=
  (smin_any w.heap.size 2 8 8 o.d.list (ext x n) (by omega) (Nat.le_refl _) (by omega) (fun j hj => by
    rw [blk_cell (h.ext n).2]
    exact deps_cell o j hj)).mono (fun e w' ⟨h1, h2⟩ => ⟨h1, n, h2⟩)
/-- the fields that each kind uses -/
def nul : ByteArray := ⟨#[]⟩
def OpG.x0 (o : OpG) : OpG := ⟨o.n, o.r, o.d, o.kd, 0, 0, 0, 0, 0, 0, nul, nul, nul, 0, 0, false, 0, 0, false⟩
@[go_sem] theorem bld0 (n r a0 a1 a2 a3 a4 a5 a6 a7 k : Int) (w : World) : (Instr.build 39 #[(0, .agg #[.int .i64 n, .int .i64 r]), (1, .agg #[.int .i64 a0, .int .i64 a1, .int .i64 a2, .int .i64 a3, .int .i64 a4, .int .i64 a5, .int .i64 a6, .int .i64 a7]), (2, .int .i64 k)]).run Tryd.prog w =
    .ok (.agg #[.int .i64 n, .int .i64 r, .int .i64 a0, .int .i64 a1, .int .i64 a2, .int .i64 a3, .int .i64 a4, .int .i64 a5, .int .i64 a6, .int .i64 a7, .int .i64 k, .int .i64 0, .int .i64 0, .int .i64 0, .int .i64 0, .int .i64 0, .int .i64 0, .string ⟨#[]⟩, .string ⟨#[]⟩, .string ⟨#[]⟩, .int .i64 0, .int .i64 0, .bool false, .int .i64 0, .int .i64 0, .bool false]) w := run_build w 39 _ _ (by kernel_rfl)
def OpG.x1 (o : OpG) : OpG := ⟨o.n, o.r, o.d, o.kd, o.rn, o.rr, o.side, o.ch, 0, 0, nul, nul, nul, 0, 0, false, 0, 0, false⟩
def OpG.x2 (o : OpG) : OpG := ⟨o.n, o.r, o.d, o.kd, o.rn, o.rr, 0, 0, 0, 0, nul, nul, nul, 0, 0, false, 0, 0, false⟩
def OpG.x3 (o : OpG) : OpG := ⟨o.n, o.r, o.d, o.kd, o.rn, o.rr, 0, 0, o.un, o.ur, o.key, nul, nul, 0, 0, false, 0, 0, false⟩
def OpG.x4 (o : OpG) : OpG := ⟨o.n, o.r, o.d, o.kd, o.rn, o.rr, 0, 0, 0, 0, nul, o.name, o.value, 0, 0, false, 0, 0, false⟩
def OpG.x50 (o : OpG) : OpG := ⟨o.n, o.r, o.d, o.kd, 0, 0, 0, 0, 0, 0, nul, o.name, o.value, 0, 0, false, 0, 0, false⟩
def OpG.x5 (o : OpG) : OpG := ⟨o.n, o.r, o.d, o.kd, 0, 0, 0, 0, 0, 0, nul, o.name, o.value, o.fn, o.fr, o.fa, o.tn, o.tr, o.ta⟩
/-- the blocks of the call: the operation, none, and the fields that are used -/
structure RW (w : World) (o x : OpG) (s : Nat) (y : World) : Prop where
  below : Below w.heap.size w y
  ob : y.heap[w.heap.size]? = some (.cells o.cells 39 (0, 0))
  nb : y.heap[s]? = some (.cells #[.int .i64 0, .int .i64 0] 31 (0, 0))
  xb : y.heap[s + 1]? = some (.cells x.cells 39 (0, 0))
  lt : w.heap.size < s
theorem RW.later {w : World} {o x : OpG} {s : Nat} {y z : World} (h : RW w o x s y) (b : Below y.heap.size y z) : RW w o x s z :=
  ⟨h.below.trans (b.mono h.below.size), (b.block _ (heap_lt h.ob)).trans h.ob, (b.block _ (heap_lt h.nb)).trans h.nb, (b.block _ (heap_lt h.xb)).trans h.xb, h.lt⟩
theorem rw_new {w wc : World} {o x : OpG} (h : OpBox o w wc) : RW w o x wc.heap.size (((wc.alloc (.cells #[.int .i64 0, .int .i64 0] 31)).alloc (.cells x.cells 39))) :=
  ⟨(h.1.alloc h.1.size _).alloc (by simp; have := h.1.size; omega) _, blk_alloc (blk_alloc h.2), blk_alloc (blk_new _ _), by have := blk_new (wc.alloc (.cells #[.int .i64 0, .int .i64 0] 31)) (.cells x.cells 39); simpa using this, heap_lt h.2⟩
theorem rw_drew {w : World} {o x : OpG} {s : Nat} {y : World} (h : RW w o x s y) : RW w o x s y.drew := h.later (Below.refl _ _).drew
theorem nb_cells {x : World} {b : Nat} (h : x.heap[b]? = some (.cells #[.int .i64 0, .int .i64 0] 31 (0, 0))) : x.cell? ⟨b, 0, none⟩ = some (.int .i64 0) ∧ x.cell? ⟨b, 1, none⟩ = some (.int .i64 0) := ⟨blk_cell h 0, blk_cell h 1⟩
theorem st_eq {n r m q : Int} {b : Bool} (h : (n == m && r == q) = b) (w : World) : (Op.equalIn 10000 31 (.agg #[.int .i64 n, .int .i64 r]) (.agg #[.int .i64 m, .int .i64 q])).run Tryd.prog w = .ok b w := by
  subst h; exact run_stEq n r m q w
def OpG.chB (o : OpG) : Bool := o.ch == 0 || (decide (32 ≤ o.ch) && decide (o.ch ≤ 126))
def OpG.ok1 (o : OpG) : Bool := ((o.side == 2 && noneB o.rn o.rr) || (o.hasB o.rn o.rr && (o.side == 1 || o.side == 2))) && o.chB
def OpG.ok2 (o : OpG) : Bool := o.hasB o.rn o.rr
def OpG.ok50 (o : OpG) : Bool := o.hasB o.fn o.fr && o.hasB o.tn o.tr
def OpG.ok3 (o : OpG) : Bool := o.hasB o.rn o.rr && (noneB o.un o.ur || o.hasB o.un o.ur) && !(o.un == o.rn && o.ur == o.rr) && keyB o.key.data.toList
def OpG.ok4 (o : OpG) : Bool := o.ok2 && nameB o.name && valB o.value
def OpG.ok5 (o : OpG) : Bool := o.ok50 && nameB o.name && valB o.value
def OpG.rightP (o : OpG) : Bool := o.pre && (if o.kd = 1 then o.ok1 && o.x1.beq o else if o.kd = 2 then o.ok2 && o.x2.beq o else if o.kd = 3 then o.ok3 && o.x3.beq o else if o.kd = 4 then o.ok4 && o.x4.beq o else if o.kd = 5 then o.ok5 && o.x5.beq o else false)
/-- the same, the fields' cells as they stand -/
structure RC (w : World) (o : OpG) (C : Array Value) (s : Nat) (y : World) : Prop where
  below : Below w.heap.size w y
  ob : y.heap[w.heap.size]? = some (.cells o.cells 39 (0, 0))
  nb : y.heap[s]? = some (.cells #[.int .i64 0, .int .i64 0] 31 (0, 0))
  xb : y.heap[s + 1]? = some (.cells C 39 (0, 0))
  lt : w.heap.size < s
theorem RC.of {w : World} {o x : OpG} {s : Nat} {y : World} (h : RW w o x s y) : RC w o x.cells s y := ⟨h.below, h.ob, h.nb, h.xb, h.lt⟩
theorem RC.set {w : World} {o : OpG} {C : Array Value} {s i : Nat} {y : World} {v : Value} (h : RC w o C s y) : RC w o (C.setIfInBounds i v) s (y.setCell ⟨s + 1, i, none⟩ v) :=
  ⟨h.below.setCell (show w.heap.size ≤ s + 1 by have := h.lt; omega) v, blk_other h.ob (by have := h.lt; intro e; simp at e; omega), blk_other h.nb (by intro e; simp at e), blk_set h.xb v, h.lt⟩
theorem RC.drew {w : World} {o : OpG} {C : Array Value} {s : Nat} {y : World} (h : RC w o C s y) : RC w o C s y.drew := ⟨h.below.drew, h.ob, h.nb, h.xb, h.lt⟩
theorem RC.to {w : World} {o x : OpG} {C : Array Value} {s : Nat} {y : World} (h : RC w o C s y) (e : C = x.cells) : RW w o x s y := ⟨h.below, h.ob, h.nb, e ▸ h.xb, h.lt⟩
theorem ret_bool {a b : Bool} (h : a = b) : Ending.returned (.bool a) = .returned (.bool b) := by rw [h]
end Go.Proofs.YtiamohfpohjdpaaDoor
