/- GENERAL LAWS, of whatever program: 'Ch F w w'': the world w' is w, but for the blocks of F and for new ones. -/
import Derived.Test.YtiamohfpohjdpaaDoorBase
import Derived.OwnWalk
import Derived.Lib.Hide
namespace Go.Proofs.YtiamohfpohjdpaaDoor
open Go.RowKit Go.Joins
set_option linter.unusedSimpArgs false
set_option linter.unusedVariables false

structure Ch (F : Nat → Prop) (w w' : World) : Prop where
  os : w'.os = w.os
  tape : w'.tape = w.tape
  output : w'.output = w.output
  size : w.heap.size ≤ w'.heap.size
  block : ∀ k, k < w.heap.size → ¬ F k → w'.heap[k]? = w.heap[k]?
theorem Ch.refl (F : Nat → Prop) (w : World) : Ch F w w := ⟨rfl, rfl, rfl, Nat.le_refl _, fun _ _ _ => rfl⟩
/-- what is behind it may turn old blocks of F, and whatever is new -/
theorem Ch.trans {F G : Nat → Prop} {a b c : World} (h : Ch F a b) (k : Ch G b c) (hG : ∀ x, x < a.heap.size → G x → F x) : Ch F a c :=
  ⟨k.os.trans h.os, k.tape.trans h.tape, k.output.trans h.output, Nat.le_trans h.size k.size, fun x hx hn => (k.block x (Nat.lt_of_lt_of_le hx h.size) (fun hg => hn (hG x hx hg))).trans (h.block x hx hn)⟩
theorem Ch.mono {F G : Nat → Prop} {w w' : World} (h : Ch F w w') (hG : ∀ x, x < w.heap.size → F x → G x) : Ch G w w' :=
  ⟨h.os, h.tape, h.output, h.size, fun x hx hn => h.block x hx (fun hf => hn (hG x hx hf))⟩
theorem Ch.below {F : Nat → Prop} {w w' : World} {B : Nat} (h : Ch F w w') (hB : B ≤ w.heap.size) (hF : ∀ x, x < B → ¬ F x) : Below B w w' :=
  ⟨h.os, h.tape, h.output, h.size, fun k hk => h.block k (by omega) (hF k hk)⟩
theorem Ch.of_below {F : Nat → Prop} {w w' : World} (h : Below w.heap.size w w') : Ch F w w' := ⟨h.os, h.tape, h.output, h.size, fun k hk _ => h.block k hk⟩
theorem Ch.of_grown {w w' : World} {row : Option Nat} (h : w.grownBy w' row) : Ch (fun x => some x = row) w w' := ⟨h.os, h.tape, h.output, h.size, fun k hk hn => h.block k hk hn⟩
theorem Ch.none {w w' : World} (h : Ch (fun _ => False) w w') : Below w.heap.size w w' := ⟨h.os, h.tape, h.output, h.size, fun k hk => h.block k hk (fun h => h)⟩
theorem Ch.drew {F : Nat → Prop} {a w : World} (h : Ch F a w) : Ch F a w.drew := ⟨h.os, h.tape, h.output, h.size, h.block⟩
theorem Ch.drewN {F : Nat → Prop} {a w : World} {n : Nat} (h : Ch F a w) : Ch F a (w.drewN n) :=
  h.trans (Ch.of_below (F := fun _ => False) (below_drewN (Below.refl _ _) n)) (fun _ _ h => h.elim)
theorem Ch.ext {F : Nat → Prop} {a w e : World} (h : Ch F a w) : Ch F a (ext w e) :=
  h.trans (Ch.of_below (F := fun _ => False) (ext_below w e)) (fun _ _ h => h.elim)
theorem Ch.alloc {F : Nat → Prop} {a w : World} (h : Ch F a w) (o : Obj) : Ch F a (w.alloc o) :=
  h.trans (Ch.of_below (F := fun _ => False) ((Below.refl _ _).alloc (Nat.le_refl _) _)) (fun _ _ h => h.elim)
theorem Ch.later {F : Nat → Prop} {a w w' : World} (h : Ch F a w) (k : Below w.heap.size w w') : Ch F a w' :=
  h.trans (Ch.of_below (F := fun _ => False) k) (fun _ _ h => h.elim)
theorem Ch.setCell {F : Nat → Prop} {a w : World} (h : Ch F a w) (p : Addr) (u : Value) (hp : p.block < a.heap.size → F p.block) : Ch F a (w.setCell p u) :=
  ⟨h.os, h.tape, h.output, by rw [show (w.setCell p u).heap.size = w.heap.size from World.size_setCell _ _ _]; exact h.size, fun k hk hn => by
    have hne : k ≠ p.block := fun e => hn (e ▸ hp (e ▸ hk))
    exact (Below.heap_setCell _ _ _ _ hne).trans (h.block k hk hn)⟩
/-- a block that is known whole, and what the walk reads off it -/
theorem blk_cell {w : World} {b : Nat} {cs : Array Value} {t : TypeId} {fr : Nat × Nat} (h : w.heap[b]? = some (.cells cs t fr)) (i : Nat) : w.cell? ⟨b, i, none⟩ = cs[i]? := Joins.cell_of_block h i
theorem blk_free {w : World} {b : Nat} {cs : Array Value} {t : TypeId} (h : w.heap[b]? = some (.cells cs t (0, 0))) (i : Nat) : w.frozen? ⟨b, i, none⟩ = false := Joins.unfrozen_of_block h i
theorem blk_set {w : World} {b i : Nat} {cs : Array Value} {t : TypeId} {fr : Nat × Nat} (h : w.heap[b]? = some (.cells cs t fr)) (v : Value) : (w.setCell ⟨b, i, none⟩ v).heap[b]? = some (.cells (cs.setIfInBounds i v) t fr) := Joins.block_setCell h v
theorem blk_other {w : World} {b : Nat} {p : Addr} {v : Value} {o : Obj} (h : w.heap[b]? = some o) (hne : b ≠ p.block) : (w.setCell p v).heap[b]? = some o := (Below.heap_setCell _ _ _ _ hne).trans h
theorem blk_alloc {w : World} {b : Nat} {o o' : Obj} (h : w.heap[b]? = some o) : (w.alloc o').heap[b]? = some o := (Below.heap_alloc _ _ _ (heap_lt h)).trans h
theorem blk_drew {w : World} {b : Nat} {o : Obj} (h : w.heap[b]? = some o) : w.drew.heap[b]? = some o := h
theorem blk_new (w : World) (o : Obj) : (w.alloc o).heap[w.heap.size]? = some o := blk_at w o _ rfl
theorem Ch.at {F : Nat → Prop} {w w' : World} {b : Nat} {o : Obj} (h : Ch F w w') (hb : w.heap[b]? = some o) (hn : ¬ F b) : w'.heap[b]? = some o := (h.block b (heap_lt hb) hn).trans hb
/-- a store into a block of the call's own: what was tracked is forgotten (for the final Below) -/
theorem Tr.setN {W0 w : World} {L : List (Nat × Array Value × TypeId)} {p : Addr} {v : Value} (h : Tr W0 w L) (hp : W0.heap.size ≤ p.block) : Tr W0 (w.setCell p v) [] := ⟨h.1.setCell hp v, fun _ h => by cases h⟩
/-- the world under a letter, and what is known of it -/
theorem wp_let {P : Program} {c : Code} {Q : Exit → Act → World → Prop} {a : Act} {w : World} (R : World → Prop) (hR : R w) (h : ∀ x, R x → c.wp P Q a x) : c.wp P Q a w := h w hR
end Go.Proofs.YtiamohfpohjdpaaDoor
