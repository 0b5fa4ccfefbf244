/- LISTS OF OPERATIONS IN MEMORY: as cells, as a row of the call's own. -/
import Derived.Test.YtiamohfpohjdpaaDoorOOpen
import Derived.Test.YtiamohfpohjdpaaDoorSCloneO
import Derived.Test.YtiamohfpohjdpaaDoorStoreAt
namespace Go.Proofs.YtiamohfpohjdpaaDoor
open Go.RowKit Go.Joins
set_option linter.unusedSimpArgs false
set_option linter.unusedVariables false
def cellsL : List OpG → List Value
  | [] => []
  | o :: L => o.cells.toList ++ cellsL L
theorem cellsL_length : ∀ L : List OpG, (cellsL L).length = L.length * 26
  | [] => rfl
  | o :: L => by
    have h := cellsL_length L
    have e : (o :: L).length * 26 = 26 + L.length * 26 := by rw [show (o :: L).length = L.length + 1 from rfl]; omega
    rw [cellsL, List.length_append, h, e]
    rfl
theorem cellsL_append : ∀ L M : List OpG, cellsL (L ++ M) = cellsL L ++ cellsL M
  | [], _ => rfl
  | o :: L, M => by rw [List.cons_append, cellsL, cellsL, cellsL_append L M, List.append_assoc]
theorem cellsL_get : ∀ (L : List OpG) (i j : Nat) (o : OpG), L[i]? = some o → j < 26 → (cellsL L)[i * 26 + j]? = o.cells[j]?
  | [], i, j, o, h, _ => by simp at h
  | p :: L, 0, j, o, h, hj => by
    simp at h
    subst h
    rw [cellsL, Nat.zero_mul, Nat.zero_add, List.getElem?_append_left (show j < 26 from hj), Array.getElem?_toList]
  | p :: L, i + 1, j, o, h, hj => by
    rw [cellsL, List.getElem?_append_right (by show 26 ≤ _; omega), show (i + 1) * 26 + j - p.cells.toList.length = i * 26 + j from by show (i + 1) * 26 + j - 26 = _; omega]
    exact cellsL_get L i j o (by simpa using h) hj
theorem cellsL_inv (L : List OpG) (t : Nat) (u : Value) (h : (cellsL L)[t]? = some u) : ∃ o, L[t / 26]? = some o ∧ o.cells[t % 26]? = some u := by
  have ht : t < L.length * 26 := by rw [← cellsL_length]; exact (List.getElem?_eq_some_iff.1 h).1
  have hi : t / 26 < L.length := by omega
  have hg : L[t / 26]? = some L[t / 26] := List.getElem?_eq_getElem hi
  refine ⟨_, hg, ?_⟩
  have := cellsL_get L (t / 26) (t % 26) _ hg (by omega)
  rw [show t / 26 * 26 + t % 26 = t by omega, h] at this
  exact this.symm
theorem op_one (o : OpG) : ∀ v ∈ o.cells.toList, v.oneCell' = true := by
  intro v hv
  simp only [List.mem_cons, List.not_mem_nil, or_false] at hv
  rcases hv with rfl | rfl | rfl | rfl | rfl | rfl | rfl | rfl | rfl | rfl | rfl | rfl | rfl | rfl | rfl | rfl | rfl | rfl | rfl | rfl | rfl | rfl | rfl | rfl | rfl | rfl <;> rfl
theorem cellsL_one : ∀ (L : List OpG), ∀ v ∈ cellsL L, v.oneCell' = true
  | [], v, h => by cases h
  | o :: L, v, h => by
    rcases List.mem_append.1 h with h | h
    · exact op_one o v h
    · exact cellsL_one L v h
/-- a row of the call's own -/
def OwnO (w : World) (base : Nat) (v : Value) (L : List OpG) : Prop := w.ownsRow base 39 26 v L.length (cellsL L)
theorem OwnO.nil (w : World) (base : Nat) : OwnO w base (.slice none 0 0) [] := World.ownsRow_nil _ _ _ _
theorem OwnO.form {w : World} {base : Nat} {v : Value} {L : List OpG} (h : OwnO w base v L) :
    (v = .slice none 0 0 ∧ L = []) ∨ ∃ B cap cur, v = .slice (some ⟨B, 0, none⟩) L.length cap ∧ base ≤ B ∧ w.heap[B]? = some (.cells cur 39 (0, 0)) ∧ L.length ≤ cap ∧ cap ≤ maxLen ∧ cur.size = cap * 26 ∧ cur.toList.take (L.length * 26) = cellsL L := by
  rcases h.2 with ⟨rfl, h0⟩ | ⟨B, cap, cur, he, hB, hb, hn, hc, hs, ht⟩
  · exact .inl ⟨rfl, List.length_eq_zero_iff.1 h0⟩
  · exact .inr ⟨B, cap, cur, he, hB, hb, hn, hc, hs, ht⟩
theorem OwnO.mk {w : World} {base B cap : Nat} {cur : Array Value} {L : List OpG} (hB : base ≤ B) (hb : w.heap[B]? = some (.cells cur 39 (0, 0))) (hn : L.length ≤ cap) (hc : cap ≤ maxLen) (hs : cur.size = cap * 26) (ht : cur.toList.take (L.length * 26) = cellsL L) :
    OwnO w base (.slice (some ⟨B, 0, none⟩) L.length cap) L := ⟨by rw [cellsL_length], .inr ⟨B, cap, cur, rfl, hB, hb, hn, hc, hs, ht⟩⟩
theorem blk_opsAt {w : World} {B : Nat} {cur : Array Value} {T : TypeId} {fr : Nat × Nat} {L : List OpG} (hb : w.heap[B]? = some (.cells cur T fr)) (ht : cur.toList.take (L.length * 26) = cellsL L) : OpsAt w (some ⟨B, 0, none⟩) L := by
  intro i o hi
  refine ⟨B, 0, rfl, heap_lt hb, fun j v hv => ?_⟩
  have hj : j < 26 := (Array.getElem?_eq_some_iff.1 hv).1
  have hil : i < L.length := (List.getElem?_eq_some_iff.1 hi).1
  have := cellsL_get L i j o hi hj
  rw [hv, ← ht, List.getElem?_take, if_pos (by omega), Array.getElem?_toList] at this
  rw [blk_cell hb, Nat.zero_add]; exact this
theorem OwnO.at {w : World} {base n cap : Nat} {ao : Option Addr} {L : List OpG} (h : OwnO w base (.slice ao n cap) L) : n = L.length ∧ OpsAt w ao L := by
  rcases h.form with ⟨e, rfl⟩ | ⟨B, c, cur, e, hB, hb, hn, hc, hs, ht⟩
  · cases e
    exact ⟨rfl, fun i o hi => by simp at hi⟩
  · cases e
    exact ⟨rfl, blk_opsAt hb ht⟩
theorem OwnO.later {w w' : World} {base : Nat} {v : Value} {L : List OpG} (h : OwnO w base v L) (b : Below w.heap.size w w') : OwnO w' base v L := by
  rcases h.form with ⟨rfl, rfl⟩ | ⟨B, c, cur, rfl, hB, hb, hn, hc, hs, ht⟩
  · exact OwnO.nil _ _
  · exact OwnO.mk hB ((b.block _ (heap_lt hb)).trans hb) hn hc hs ht
theorem OwnO.ch {w w' : World} {base : Nat} {v : Value} {L : List OpG} {F : Nat → Prop} (h : OwnO w base v L) (c : Ch F w w') (hF : ∀ b, v.ownBlock = some b → ¬ F b) : OwnO w' base v L := by
  rcases h.form with ⟨rfl, rfl⟩ | ⟨B, cp, cur, rfl, hB, hb, hn, hc, hs, ht⟩
  · exact OwnO.nil _ _
  · exact OwnO.mk hB (c.at hb (hF B rfl)) hn hc hs ht
theorem OwnO.base {w : World} {base base' : Nat} {v : Value} {L : List OpG} (h : OwnO w base v L) (hb' : ∀ b, v.ownBlock = some b → base' ≤ b) : OwnO w base' v L := by
  rcases h.form with ⟨rfl, rfl⟩ | ⟨B, cp, cur, rfl, hB, hb, hn, hc, hs, ht⟩
  · exact OwnO.nil _ _
  · exact OwnO.mk (hb' B rfl) hb hn hc hs ht
/-- the cells, for append and Clone -/
theorem OpsAt.cells {w : World} {ao : Option Addr} {L : List OpG} (h : OpsAt w ao L) : ∀ ad, ao = some ad → ∀ (j : Nat) u, (cellsL L)[j]? = some u → w.cell? (ad.add j) = some u := by
  intro ad had j u hu
  obtain ⟨o, h1, h2⟩ := cellsL_inv L j u hu
  obtain ⟨b, off, e, hb, hc⟩ := h _ _ h1
  rw [had] at e
  cases e
  rw [Addr.add_lit]
  have := hc _ _ h2
  rwa [show off + j / 26 * 26 + j % 26 = off + j by omega] at this
theorem OpsAt.take {w : World} {ao : Option Addr} {L : List OpG} (h : OpsAt w ao L) (n : Nat) : OpsAt w ao (L.take n) := fun i o hi => h i o (by
  rw [List.getElem?_take] at hi
  split at hi
  · exact hi
  · cases hi)
theorem OpsAt.drop {w : World} {b off : Nat} {L : List OpG} (h : OpsAt w (some ⟨b, off, none⟩) L) (n : Nat) : OpsAt w (some ⟨b, off + n * 26, none⟩) (L.drop n) := fun i o hi => by
  rw [List.getElem?_drop] at hi
  obtain ⟨b', off', e, hb, hc⟩ := h _ _ hi
  cases e
  refine ⟨_, _, rfl, hb, fun j v hv => ?_⟩
  have := hc j v hv
  rwa [show off + (n + i) * 26 + j = off + n * 26 + i * 26 + j by omega] at this
/-- one operation, loaded -/
theorem OpAt.load {w : World} {ao : Option Addr} {i : Nat} {o : OpG} (h : OpAt w ao i o) : ∃ b off, ao = some ⟨b, off, none⟩ ∧ b < w.heap.size ∧ ∀ (j : Nat) (v : Value), o.cells[j]? = some v → w.cell? ⟨b, off + i * 26 + j, none⟩ = some v := h
/-! ### slices.Clone -/
theorem clone_ops (w : World) (ao : Option Addr) (cap : Nat) (L : List OpG) (h : OpsAt w ao L) (hn : L.length < 4294967296) (hne : L ≠ []) :
    Calls Tryd.prog 29 #[.slice ao L.length cap] w fun e w' => ∃ g c, e = .returned (.slice (some ⟨g, 0, none⟩) L.length c) ∧ OwnO w' w.heap.size (.slice (some ⟨g, 0, none⟩) L.length c) L ∧ Below w.heap.size w w' := by
  have h0 : 0 < L.length := List.length_pos_iff.2 hne
  obtain ⟨o0, ho⟩ : ∃ o, L[0]? = some o := ⟨L[0], List.getElem?_eq_getElem h0⟩
  obtain ⟨b, off, rfl, hb, hc⟩ := h 0 o0 ho
  refine (clone_anyO b off L.length cap (cellsL L) w h0 hn (cellsL_length L) (fun j u hj => ?_) (cellsL_one L)).mono ?_
  · have := h.cells _ rfl j u hj
    rwa [Addr.add_lit] at this
  · rintro e w' ⟨g, c, rfl, hown, hbel, hg⟩
    exact ⟨g, c, rfl, OwnO.base (base := 0) hown (fun b hb => by cases hb; exact hg), hbel⟩
end Go.Proofs.YtiamohfpohjdpaaDoor
