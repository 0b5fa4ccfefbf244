/- CAUSAL'S LAWS: a store that is filled, step by step; the empty operation. -/
import Derived.Test.YtiamohfpohjdpaaDoorCAlive
import Derived.Test.YtiamohfpohjdpaaDoorCSame
namespace Go.Proofs.YtiamohfpohjdpaaDoor
open Go.RowKit Go.Joins
set_option linter.unusedSimpArgs false
set_option linter.unusedVariables false
open Classical

/-- a store that came about by at most k operations; F: its blocks -/
structure SF (s : Nat) (A W : List OpG) (k : Nat) (F : Nat → Prop) (z : World) : Prop where
  st : StoreIs z s A W F
  bd : ∀ x, F x → x < z.heap.size
  stb : Cz.Stb MO A W
  len : A.length + W.length ≤ k
section
variable {s t k m : Nat} {A W B V : List OpG} {F G : Nat → Prop} {z z' : World}
theorem SF.later (h : SF s A W k F z) (b : Below z.heap.size z z') : SF s A W k F z' := ⟨h.st.later b, fun x hx => Nat.lt_of_lt_of_le (h.bd x hx) b.size, h.stb, h.len⟩
theorem SF.ch (h : SF s A W k F z) (c : Ch G z z') (hG : ∀ x, F x → ¬ G x) : SF s A W k F z' := ⟨h.st.ch c hG, fun x hx => Nat.lt_of_lt_of_le (h.bd x hx) c.size, h.stb, h.len⟩
theorem SF.le (h : SF s A W k F z) (hk : k ≤ m) : SF s A W m F z := ⟨h.st, h.bd, h.stb, Nat.le_trans h.len hk⟩
theorem SF.alen (h : SF s A W k F z) : A.length ≤ k := by have := h.len; omega
theorem SF.wlen (h : SF s A W k F z) : W.length ≤ k := by have := h.len; omega
theorem SF.fine (h : SF s A W k F z) {x : OpG} (hx : x ∈ A ++ W) : x.fine := (h.stb.ok x hx).2
theorem newF_any (w : World) : Calls Tryd.prog 8 #[] w fun e w' => ∃ s, e = .returned (ptr s) ∧ (∃ F, SF s [] [] 0 F w' ∧ ∀ x, F x → w.heap.size ≤ x) ∧ Below w.heap.size w w' := by
  refine (newS_any w).mono ?_
  rintro e w' ⟨rfl, h1, h2⟩
  exact ⟨_, rfl, ⟨_, ⟨h1.bnd, fun x hx => hx.2, Cz.Stb.nil, by simp⟩, fun x hx => hx.1⟩, h2⟩
theorem StoreIs.bnd (h : StoreIs z s A W F) : StoreIs z s A W (fun x => F x ∧ x < z.heap.size) := StoreT.bnd h
theorem SF.add (h : SF s A W k F z) (hk : k < 4000) (o : OpG) (hf : o.fine) : Calls Tryd.prog 10 #[ptr s, o.val] z fun e z' => ∃ ao c n res err A' W' F', e = .returned (.tuple #[.slice ao n c, .int .i64 err]) ∧ n = res.length ∧ Cz.AddR MO SortOf A W o res err A' W' ∧ SF s A' W' (k + 1) F' z' ∧ Ch F z z' ∧ (∀ x, F' x → F x ∨ z.heap.size ≤ x) ∧ OwnO z' z.heap.size (.slice ao n c) res := by
  refine (add_any z s A W F h.st h.stb (by have := h.len; omega) o hf).mono ?_
  rintro e z' ⟨v, res, err, A', W', rfl, h1, h2, h3, h4, h5⟩
  obtain ⟨ao, c, rfl, -, -⟩ := h4.at'
  have hst := h1.stb (fun l l2 h => h.perm) h.stb
  exact ⟨ao, c, _, res, err, A', W', _, rfl, rfl, h1, ⟨StoreT.bnd h2, fun x hx => hx.2, hst.1, by have := hst.2.1; have := h.len; omega⟩, h3, fun x hx => hx.1, h4⟩
theorem SF.all (h : SF s A W k F z) (hk : k < 4000) : Calls Tryd.prog 11 #[ptr s] z fun e z' => ∃ ao n c, e = .returned (.slice ao n c) ∧ n = A.length ∧ OwnO z' z.heap.size (.slice ao n c) A ∧ Below z.heap.size z z' := by
  refine (all_any z s A W F h.st (by have := h.len; omega)).mono ?_
  rintro e z' ⟨v, rfl, h1, h2⟩
  obtain ⟨ao, c, rfl, -, -⟩ := h1.at'
  exact ⟨ao, _, c, rfl, rfl, h1, h2⟩
theorem SF.pending (h : SF s A W k F z) (hk : k < 4000) : Calls Tryd.prog 13 #[ptr s] z fun e z' => ∃ ao n c, e = .returned (.slice ao n c) ∧ n = W.length ∧ OwnO z' z.heap.size (.slice ao n c) W ∧ Below z.heap.size z z' := by
  refine (pending_any z s A W F h.st (by have := h.len; omega)).mono ?_
  rintro e z' ⟨v, rfl, h1, h2⟩
  obtain ⟨ao, c, rfl, -, -⟩ := h1.at'
  exact ⟨ao, _, c, rfl, rfl, h1, h2⟩
theorem SF.known (h : SF s A W k F z) : Calls Tryd.prog 12 #[ptr s] z fun e z' => e = .returned (knownV A).val ∧ Below z.heap.size z z' := knownS_any z s A W F h.st
theorem SF.missing (h : SF s A W k F z) (hk : k < 4000) (v : V8) (n : Int) : Calls Tryd.prog 18 #[ptr s, v.val, .int .i64 n] z fun e z' => ∃ ao m c, e = .returned (.slice ao m c) ∧ m = (missL v n A).length ∧ OwnO z' z.heap.size (.slice ao m c) (missL v n A) ∧ Below z.heap.size z z' := by
  refine (missing_any z s A W F h.st (by have := h.len; omega) v n).mono ?_
  rintro e z' ⟨u, rfl, h1, h2⟩
  obtain ⟨ao, c, rfl, -, -⟩ := h1.at'
  exact ⟨ao, _, c, rfl, rfl, h1, h2⟩
/-- one that is there, once more -/
theorem add_there {o : OpG} {res A' W' : List OpG} {e : Int} (h : Cz.AddR MO SortOf A W o res e A' W') (hok : MO.ok o) (hin : MO.id o ∈ Cz.ids MO (A ++ W)) : res = [] ∧ e = 0 ∧ A' = A ∧ W' = W := by
  cases h with
  | bad h => exact absurd hok h
  | there => exact ⟨rfl, rfl, rfl, rfl⟩
  | late _ h => exact absurd hin h
  | pend _ h => exact absurd hin h
  | wait _ h => exact absurd hin h
  | done _ h => exact absurd hin h
theorem add_bad {o : OpG} {res A' W' : List OpG} {e : Int} (h : Cz.AddR MO SortOf A W o res e A' W') (hok : ¬ MO.ok o) : res = [] ∧ e = 71 ∧ A' = A ∧ W' = W := by
  cases h with
  | bad h => exact ⟨rfl, rfl, rfl, rfl⟩
  | there h => exact absurd h hok
  | late h => exact absurd h hok
  | pend h => exact absurd h hok
  | wait h => exact absurd h hok
  | done h => exact absurd h hok
end
def nulO : OpG := ⟨0, 0, V8.zero, 0, 0, 0, 0, 0, 0, 0, ⟨#[]⟩, ⟨#[]⟩, ⟨#[]⟩, 0, 0, false, 0, 0, false⟩
theorem nulO_bad : ¬ MO.ok nulO := fun h => by have h1 : nulO.rightP = false := by kernel_rfl
                                               rw [h.1] at h1; cases h1
theorem nulO_fine : nulO.fine := ⟨Nat.zero_le _, Nat.zero_le _, Nat.zero_le _⟩
theorem bldO0 (w : World) : (Instr.build 39 #[]).run Tryd.prog w = .ok nulO.val w := run_build w 39 _ _ (by kernel_rfl)
/-- a row of operations that a law keeps -/
structure KR (w0 : Nat) (ao : Option Addr) (n c : Nat) (L : List OpG) (F : Nat → Prop) (z : World) : Prop where
  own : OwnO z w0 (.slice ao n c) L
  nf : ∀ b, (Value.slice ao n c).ownBlock = some b → ¬ F b
section
variable {w0 n c : Nat} {ao : Option Addr} {L : List OpG} {F F' G : Nat → Prop} {z z' : World}
theorem KR.later (h : KR w0 ao n c L F z) (b : Below z.heap.size z z') : KR w0 ao n c L F z' := ⟨h.own.later b, h.nf⟩
theorem KR.step (h : KR w0 ao n c L F z) (c' : Ch F z z') (hF : ∀ x, F' x → F x ∨ z.heap.size ≤ x) : KR w0 ao n c L F' z' :=
  ⟨h.own.ch c' h.nf, fun b hb hx => (hF b hx).elim (h.nf b hb) (fun h2 => by have := own_lt h.own hb; omega)⟩
theorem KR.new (h : OwnO z w0 (.slice ao n c) L) (hF : ∀ x, F x → x < w0) : KR w0 ao n c L F z := ⟨h, fun b hb hx => by have := (World.ownsRow.lt h b hb).1; have := hF b hx; omega⟩
theorem KR.get (h : KR w0 ao n c L F z) {i : Nat} {o : OpG} (hi : L[i]? = some o) : n = L.length ∧ ∃ b off, ao = some ⟨b, off, none⟩ ∧ b < z.heap.size ∧ ∀ (j : Nat) v, o.cells[j]? = some v → z.cell? ⟨b, off + i * 26 + j, none⟩ = some v := by
  obtain ⟨h1, h2⟩ := h.own.at
  exact ⟨h1, h2 i o hi⟩
end
end Go.Proofs.YtiamohfpohjdpaaDoor
