/- A SCRIPT THAT CAME IN, opened; rows of acts. -/
import Derived.Test.YtohpablkgfkelaaFBet
import Derived.ProofKit
import Derived.OpenShut
import Derived.ChangeArms
import Derived.Deep.Slices
namespace Go.Proofs.Ytohpablkgfkelaa
open Go.ChangeShapes Go.WideShapes Go.RowKit Go.Joins Go.Deep
set_option linter.unusedVariables false
set_option linter.unusedSimpArgs false

structure ActG where
  kd : Int
  id : St
  par : St
  side : Int
  ch : Int
  n : Int
deriving DecidableEq
abbrev ActG.cells (a : ActG) : Array Value := #[.int .i64 a.kd, .int .i64 a.id.1, .int .i64 a.id.2, .int .i64 a.par.1, .int .i64 a.par.2, .int .i64 a.side, .int .i64 a.ch, .int .i64 a.n]
abbrev ActG.val (a : ActG) : Value := .agg a.cells
section
variable {H : Type} {enc : TypeId × Value → H} {w : World} {base : Nat} {spare : Nat → Bool} {held : Bool}
theorem trod_i {n : Nat} {t : TypeId} (ht : Try.prog.underlying t = some (.int .i64)) {c : Value} {y : DataW H × List MemPlace} (h : DataW.trod enc Try.prog w base spare held n t [c] = some y) : ∃ x, c = .int .i64 x := by
  obtain ⟨x, e, -, -⟩ := DataW.trod_int ht h
  exact ⟨x, by simpa using e⟩
theorem ki : Try.prog.cellsOf 3 = 1 := by kernel_rfl
theorem ksd : Try.prog.cellsOf 31 = 1 := by kernel_rfl
theorem kst : Try.prog.cellsOf 30 = 2 := by kernel_rfl
theorem kac : Try.prog.cellsOf 33 = 8 := by kernel_rfl
theorem trod_st {n : Nat} {a b : Value} {y : DataW H × List MemPlace} (h : DataW.trod enc Try.prog w base spare held n 30 [a, b] = some y) : ∃ x z, a = .int .i64 x ∧ b = .int .i64 z := by
  obtain ⟨xs, m, -, -, -, hx, hf⟩ := DataW.trod_struct Try.underlying30 h
  match xs, hx with
  | [y0, y1], _ =>
    have g0 : DataW.trod enc Try.prog w base spare held m 3 (([a, b].drop 0).take (Try.prog.cellsOf 3)) = some y0 := hf 0 _ rfl
    have g1 : DataW.trod enc Try.prog w base spare held m 3 (([a, b].drop 1).take (Try.prog.cellsOf 3)) = some y1 := hf 1 _ rfl
    rw [ki] at g0 g1
    obtain ⟨x, rfl⟩ := trod_i Try.underlying3 g0
    obtain ⟨z, rfl⟩ := trod_i Try.underlying3 g1
    exact ⟨x, z, rfl, rfl⟩
theorem list8L {cs : List Value} (h : cs.length = 8) : ∃ c0 c1 c2 c3 c4 c5 c6 c7, cs = [c0, c1, c2, c3, c4, c5, c6, c7] := by
  match cs, h with
  | [c0, c1, c2, c3, c4, c5, c6, c7], _ => exact ⟨c0, c1, c2, c3, c4, c5, c6, c7, rfl⟩
theorem trod_act {n : Nat} {cs : List Value} {y : DataW H × List MemPlace} (h : DataW.trod enc Try.prog w base spare held n 33 cs = some y) : ∃ o : ActG, cs = o.cells.toList := by
  obtain ⟨xs, m, -, -, hl, hx, hf⟩ := DataW.trod_struct Try.underlying33 h
  have hl8 : cs.length = 8 := hl.trans (by kernel_rfl)
  obtain ⟨c0, c1, c2, c3, c4, c5, c6, c7, rfl⟩ := list8L hl8
  match xs, hx with
  | [y0, y1, y2, y3, y4, y5], _ =>
    have g0 : DataW.trod enc Try.prog w base spare held m 3 (([c0, c1, c2, c3, c4, c5, c6, c7].drop 0).take (Try.prog.cellsOf 3)) = some y0 := hf 0 _ rfl
    have g1 : DataW.trod enc Try.prog w base spare held m 30 (([c0, c1, c2, c3, c4, c5, c6, c7].drop 1).take (Try.prog.cellsOf 30)) = some y1 := hf 1 _ rfl
    have g2 : DataW.trod enc Try.prog w base spare held m 30 (([c0, c1, c2, c3, c4, c5, c6, c7].drop 3).take (Try.prog.cellsOf 30)) = some y2 := hf 2 _ rfl
    have g3 : DataW.trod enc Try.prog w base spare held m 31 (([c0, c1, c2, c3, c4, c5, c6, c7].drop 5).take (Try.prog.cellsOf 31)) = some y3 := hf 3 _ rfl
    have g4 : DataW.trod enc Try.prog w base spare held m 3 (([c0, c1, c2, c3, c4, c5, c6, c7].drop 6).take (Try.prog.cellsOf 3)) = some y4 := hf 4 _ rfl
    have g5 : DataW.trod enc Try.prog w base spare held m 3 (([c0, c1, c2, c3, c4, c5, c6, c7].drop 7).take (Try.prog.cellsOf 3)) = some y5 := hf 5 _ rfl
    rw [ki] at g0 g4 g5
    rw [kst] at g1 g2
    rw [ksd] at g3
    obtain ⟨n0, rfl⟩ := trod_i Try.underlying3 g0
    obtain ⟨n1, n2, rfl, rfl⟩ := trod_st g1
    obtain ⟨n3, n4, rfl, rfl⟩ := trod_st g2
    obtain ⟨n5, rfl⟩ := trod_i Try.underlying31 g3
    obtain ⟨n6, rfl⟩ := trod_i Try.underlying3 g4
    obtain ⟨n7, rfl⟩ := trod_i Try.underlying3 g5
    exact ⟨⟨n0, (n1, n2), (n3, n4), n5, n6, n7⟩, rfl⟩
set_option maxRecDepth 100000 in
/-- an act by value -/
theorem open_act {r : Reach} {b0 : Nat} {v : Value} {d : DataW H} {ps : List MemPlace} (hval : Value.okWide Try.prog w r b0 33 v) (hd : DataW.Trod enc Try.prog w base spare held 33 v d ps) : ∃ o : ActG, v = o.val := by
  obtain ⟨cs, rfl, hs, -⟩ := agg_struct Try.underlying33 hval
  obtain ⟨fuel, hf⟩ := hd
  obtain ⟨o, ho⟩ := trod_act hf
  refine ⟨o, ?_⟩
  have : cs.toList = o.cells.toList := ho
  exact congrArg Value.agg (Array.toList_inj.1 this)
/-- a list of acts in memory -/
def ActAt (w : World) (ao : Option Addr) (i : Nat) (o : ActG) : Prop := ∃ b off, ao = some ⟨b, off, none⟩ ∧ b < w.heap.size ∧ ∀ (j : Nat) (v : Value), o.cells[j]? = some v → w.cell? ⟨b, off + i * 8 + j, none⟩ = some v
def ActsAt (w : World) (ao : Option Addr) (L : List ActG) : Prop := ∀ (i : Nat) (o : ActG), L[i]? = some o → ActAt w ao i o
theorem ActAt.below {w w' : World} {ao : Option Addr} {i : Nat} {o : ActG} (h : ActAt w ao i o) (b : Below w.heap.size w w') : ActAt w' ao i o := by
  obtain ⟨b0, off, e, hb, hc⟩ := h
  exact ⟨b0, off, e, Nat.lt_of_lt_of_le hb b.size, fun j v hv => (b.cell (p := ⟨b0, off + i * 8 + j, none⟩) hb).trans (hc j v hv)⟩
theorem ActsAt.below {w w' : World} {ao : Option Addr} {L : List ActG} (h : ActsAt w ao L) (b : Below w.heap.size w w') : ActsAt w' ao L := fun i o hi => (h i o hi).below b
set_option maxRecDepth 100000 in
theorem open_acts {v : Value} {d : DataW H} {ps : List MemPlace} {r : Reach} {b0 : Nat}
    (hval : Value.okWide Try.prog w r b0 22 v) (hd : DataW.Trod enc Try.prog w 0 spare held 22 v d ps) :
    ∃ (ao : Option Addr) (cap : Nat) (L : List ActG), v = .slice ao L.length cap ∧ L.length ≤ maxLen ∧ ActsAt w ao L := by
  obtain ⟨a0, len, cap, rfl⟩ := okWide_slice Try.underlying22 hval
  obtain ⟨fuel, hf⟩ := hd
  rcases Deep.open_slice Try.underlying22 hf with ⟨hcs, hx⟩ | ⟨a, len', cap', m, n, D, Pl, hcs, hb, hl, hm, hmm, hx, hi⟩
  · simp [Value.cells] at hcs
    obtain ⟨rfl, rfl, rfl⟩ := hcs
    exact ⟨none, 0, [], rfl, by simp, fun i o h => by simp at h⟩
  · simp [Value.cells] at hcs
    obtain ⟨rfl, rfl, rfl⟩ := hcs
    rw [kac] at hi
    have hm' : len ≤ m := by rw [hmm]; split <;> omega
    have hex : ∀ i, i < len → ∃ o : ActG, ActAt w (some a) i o := fun i hil => by
      obtain ⟨b, off, spot⟩ := a
      have hs : spot = none := by
        obtain ⟨cs', h1, h2⟩ := hi 0 (by omega)
        obtain ⟨_, hl1, hat⟩ := World.cells?_some h1
        have h3 := hat 0 (by omega)
        rw [List.getElem?_eq_getElem (by omega)] at h3
        simpa [Addr.add] using World.cell?_spot h3
      subst hs
      obtain ⟨cs', h1, h2⟩ := hi i (by omega)
      obtain ⟨o, rfl⟩ := trod_act h2
      obtain ⟨_, hl1, hat⟩ := World.cells?_some h1
      have key : ∀ (j : Nat) (v : Value), o.cells[j]? = some v → w.cell? ⟨b, off + i * 8 + j, none⟩ = some v := fun j v hv => by
        have hj : j < 8 := (Array.getElem?_eq_some_iff.1 hv).1
        have := hat j hj
        rw [Array.getElem?_toList, hv] at this
        simpa [add_plain] using this
      exact ⟨o, b, off, rfl, World.block_lt_of_cell? _ _ (key 0 _ rfl), key⟩
    have hch : ∀ L, L ≤ len → ∃ A : List ActG, A.length = L ∧ ActsAt w (some a) A := by
      intro L
      induction L with
      | zero => exact fun _ => ⟨[], rfl, fun i o h => by simp at h⟩
      | succ L ih =>
        intro hL
        obtain ⟨A, hA, hAt⟩ := ih (by omega)
        obtain ⟨g, hg⟩ := hex L (by omega)
        refine ⟨A ++ [g], by simp [hA], fun i o hio => ?_⟩
        by_cases h : i < A.length
        · rw [List.getElem?_append_left h] at hio; exact hAt i o hio
        · have hi2 := (List.getElem?_eq_some_iff.1 hio).1
          have : i = A.length := by simp at hi2; omega
          subst this
          rw [List.getElem?_append_right (by omega)] at hio
          simp at hio
          subst hio
          rw [hA]; exact hg
    obtain ⟨A, hA, hAt⟩ := hch len (Nat.le_refl _)
    subst hA
    exact ⟨some a, cap, A, rfl, by omega, hAt⟩
end
/-! ### rows of acts -/
def actL (l : List ActG) : List Value := l.flatMap fun a => a.cells.toList
theorem actL_length (l : List ActG) : (actL l).length = l.length * 8 := by
  induction l with
  | nil => rfl
  | cons k ks ih => unfold actL at *; rw [List.flatMap_cons, List.length_append, ih]; simp; omega
theorem actL_append (a b : List ActG) : actL (a ++ b) = actL a ++ actL b := by simp [actL]
theorem act_one (x : ActG) : ∀ v ∈ x.cells.toList, v.oneCell' = true := by
  intro v hv
  simp at hv
  rcases hv with rfl | rfl | rfl | rfl | rfl | rfl | rfl | rfl <;> rfl
theorem actL_one (l : List ActG) : ∀ v ∈ actL l, v.oneCell' = true := by
  intro v hv
  obtain ⟨k, _, hv⟩ := List.mem_flatMap.1 hv
  exact act_one k v hv
theorem actL_get : ∀ (l : List ActG) (i : Nat) (a : ActG) (j : Nat) (v : Value), l[i]? = some a → a.cells[j]? = some v → (actL l)[i * 8 + j]? = some v
  | [], i, a, j, v, h, _ => by simp at h
  | x :: l, 0, a, j, v, h, hv => by
    simp at h
    subst h
    have hj : j < 8 := (Array.getElem?_eq_some_iff.1 hv).1
    unfold actL
    rw [List.flatMap_cons, Nat.zero_mul, Nat.zero_add, List.getElem?_append_left (by simpa using hj), Array.getElem?_toList]
    exact hv
  | x :: l, i + 1, a, j, v, h, hv => by
    have ih := actL_get l i a j v (by simpa using h) hv
    unfold actL at *
    rw [List.flatMap_cons, List.getElem?_append_right (by simp; omega), ← ih]
    congr 1
    simp
    omega
def RowAct (w : World) (base : Nat) (v : Value) (l : List ActG) : Prop := w.ownsRow base 33 8 v l.length (actL l)
theorem RowAct.form {w : World} {base : Nat} {v : Value} {l : List ActG} (h : RowAct w base v l) : ∃ ao cap, v = .slice ao l.length cap ∧ (ao = none → cap = 0 ∧ l = []) ∧ (∀ a, ao = some a → a.off = 0 ∧ a.spot = none) ∧ l.length ≤ cap ∧ cap ≤ maxLen ∧ ActsAt w ao l := by
  rcases h.2 with ⟨rfl, h0⟩ | ⟨A, cap, cur, he, _, hb, hnc, hc, hs, ht⟩
  · have hl := List.length_eq_zero_iff.1 h0
    subst hl
    exact ⟨none, 0, rfl, fun _ => ⟨rfl, rfl⟩, fun a h => (by cases h), Nat.le_refl _, Nat.zero_le _, fun i o h => (by simp at h)⟩
  · refine ⟨some ⟨A, 0, none⟩, cap, he, fun h => (by cases h), fun a h => (by cases h; exact ⟨rfl, rfl⟩), hnc, hc, fun i o hi => ⟨A, 0, rfl, heap_lt hb, fun j v hv => ?_⟩⟩
    have hil := (List.getElem?_eq_some_iff.1 hi).1
    have hj : j < 8 := (Array.getElem?_eq_some_iff.1 hv).1
    have h1 := actL_get l i o j v hi hv
    rw [← ht, List.getElem?_take, if_pos (by omega), Array.getElem?_toList] at h1
    rw [blk_cell hb, Nat.zero_add]
    exact h1
theorem infoAct : (Try.prog.info? 33).map (fun i => (i.zero, i.size, i.bytes)) = some (some (.agg #[.int .i64 0, .int .i64 0, .int .i64 0, .int .i64 0, .int .i64 0, .int .i64 0, .int .i64 0, .int .i64 0]), 8, 64) := by kernel_rfl
end Go.Proofs.Ytohpablkgfkelaa
