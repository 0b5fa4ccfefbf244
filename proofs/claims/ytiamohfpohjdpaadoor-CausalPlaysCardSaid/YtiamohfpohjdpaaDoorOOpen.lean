/- OPERATIONS THAT CAME IN, opened: one by value, and a list of them. -/
import Derived.Test.YtiamohfpohjdpaaDoorORight
import Derived.ProofKit
import Derived.OpenShut
import Derived.ChangeArms
import Derived.Deep.Slices
namespace Go.Proofs.YtiamohfpohjdpaaDoor
open Go.ChangeShapes Go.WideShapes Go.RowKit Go.Joins Go.Deep
set_option linter.unusedVariables false
set_option linter.unusedSimpArgs false

section
variable {H : Type} {enc : TypeId × Value → H} {w : World} {base : Nat} {spare : Nat → Bool} {held : Bool}
theorem trod_i {n : Nat} {t : TypeId} (ht : Tryd.prog.underlying t = some (.int .i64)) {c : Value} {y : DataW H × List MemPlace} (h : DataW.trod enc Tryd.prog w base spare held n t [c] = some y) : ∃ x, c = .int .i64 x := by
  obtain ⟨x, e, -, -⟩ := DataW.trod_int ht h
  exact ⟨x, by simpa using e⟩
theorem trod_b {n : Nat} {t : TypeId} (ht : Tryd.prog.underlying t = some .bool) {c : Value} {y : DataW H × List MemPlace} (h : DataW.trod enc Tryd.prog w base spare held n t [c] = some y) : ∃ x, c = .bool x := by
  obtain ⟨x, e, -⟩ := DataW.trod_bool ht h
  exact ⟨x, by simpa using e⟩
theorem trod_s {n : Nat} {t : TypeId} (ht : Tryd.prog.underlying t = some .string) {c : Value} {y : DataW H × List MemPlace} (h : DataW.trod enc Tryd.prog w base spare held n t [c] = some y) : ∃ x : ByteArray, c = .string x ∧ x.size ≤ maxLen := by
  obtain ⟨x, e, -, hx⟩ := DataW.trod_string ht h
  exact ⟨x, by simpa using e, hx⟩
theorem ki : Tryd.prog.cellsOf 3 = 1 := by kernel_rfl
theorem kb : Tryd.prog.cellsOf 4 = 1 := by kernel_rfl
theorem ks : Tryd.prog.cellsOf 9 = 1 := by kernel_rfl
theorem kkd : Tryd.prog.cellsOf 34 = 1 := by kernel_rfl
theorem ksd : Tryd.prog.cellsOf 35 = 1 := by kernel_rfl
theorem kst : Tryd.prog.cellsOf 31 = 2 := by kernel_rfl
theorem kve : Tryd.prog.cellsOf 33 = 8 := by kernel_rfl
theorem kan : Tryd.prog.cellsOf 37 = 3 := by kernel_rfl
theorem kop : Tryd.prog.cellsOf 39 = 26 := by kernel_rfl
theorem trod_st {n : Nat} {a b : Value} {y : DataW H × List MemPlace} (h : DataW.trod enc Tryd.prog w base spare held n 31 [a, b] = some y) : ∃ x z, a = .int .i64 x ∧ b = .int .i64 z := by
  obtain ⟨xs, m, -, -, -, hx, hf⟩ := DataW.trod_struct Tryd.underlying31 h
  match xs, hx with
  | [y0, y1], _ =>
    have g0 : DataW.trod enc Tryd.prog w base spare held m 3 (([a, b].drop 0).take (Tryd.prog.cellsOf 3)) = some y0 := hf 0 _ rfl
    have g1 : DataW.trod enc Tryd.prog w base spare held m 3 (([a, b].drop 1).take (Tryd.prog.cellsOf 3)) = some y1 := hf 1 _ rfl
    rw [ki] at g0 g1
    obtain ⟨x, rfl⟩ := trod_i Tryd.underlying3 g0
    obtain ⟨z, rfl⟩ := trod_i Tryd.underlying3 g1
    exact ⟨x, z, rfl, rfl⟩
theorem trod_an {n : Nat} {a b c : Value} {y : DataW H × List MemPlace} (h : DataW.trod enc Tryd.prog w base spare held n 37 [a, b, c] = some y) : ∃ x z q, a = .int .i64 x ∧ b = .int .i64 z ∧ c = .bool q := by
  obtain ⟨xs, m, -, -, -, hx, hf⟩ := DataW.trod_struct Tryd.underlying37 h
  match xs, hx with
  | [y0, y1], _ =>
    have g0 : DataW.trod enc Tryd.prog w base spare held m 31 (([a, b, c].drop 0).take (Tryd.prog.cellsOf 31)) = some y0 := hf 0 _ rfl
    have g1 : DataW.trod enc Tryd.prog w base spare held m 4 (([a, b, c].drop 2).take (Tryd.prog.cellsOf 4)) = some y1 := hf 1 _ rfl
    rw [kst] at g0
    rw [kb] at g1
    obtain ⟨x, z, rfl, rfl⟩ := trod_st g0
    obtain ⟨q, rfl⟩ := trod_b Tryd.underlying4 g1
    exact ⟨x, z, q, rfl, rfl, rfl⟩
theorem trod_ve {n : Nat} {c0 c1 c2 c3 c4 c5 c6 c7 : Value} {y : DataW H × List MemPlace} (h : DataW.trod enc Tryd.prog w base spare held n 33 [c0, c1, c2, c3, c4, c5, c6, c7] = some y) : ∃ v : V8, [c0, c1, c2, c3, c4, c5, c6, c7] = [.int .i64 v.x0, .int .i64 v.x1, .int .i64 v.x2, .int .i64 v.x3, .int .i64 v.x4, .int .i64 v.x5, .int .i64 v.x6, .int .i64 v.x7] := by
  obtain ⟨xs, m, -, -, -, hx, hf⟩ := DataW.trod_array Tryd.underlying33 h
  rw [ki] at hf
  match xs, hx with
  | [y0, y1, y2, y3, y4, y5, y6, y7], _ =>
    obtain ⟨x0, rfl⟩ := trod_i (c := c0) (y := y0) Tryd.underlying3 (hf 0 (by decide))
    obtain ⟨x1, rfl⟩ := trod_i (c := c1) (y := y1) Tryd.underlying3 (hf 1 (by decide))
    obtain ⟨x2, rfl⟩ := trod_i (c := c2) (y := y2) Tryd.underlying3 (hf 2 (by decide))
    obtain ⟨x3, rfl⟩ := trod_i (c := c3) (y := y3) Tryd.underlying3 (hf 3 (by decide))
    obtain ⟨x4, rfl⟩ := trod_i (c := c4) (y := y4) Tryd.underlying3 (hf 4 (by decide))
    obtain ⟨x5, rfl⟩ := trod_i (c := c5) (y := y5) Tryd.underlying3 (hf 5 (by decide))
    obtain ⟨x6, rfl⟩ := trod_i (c := c6) (y := y6) Tryd.underlying3 (hf 6 (by decide))
    obtain ⟨x7, rfl⟩ := trod_i (c := c7) (y := y7) Tryd.underlying3 (hf 7 (by decide))
    exact ⟨⟨x0, x1, x2, x3, x4, x5, x6, x7⟩, rfl⟩
theorem list26 {cs : List Value} (h : cs.length = 26) : ∃ c0 c1 c2 c3 c4 c5 c6 c7 c8 c9 c10 c11 c12 c13 c14 c15 c16 c17 c18 c19 c20 c21 c22 c23 c24 c25, cs = [c0, c1, c2, c3, c4, c5, c6, c7, c8, c9, c10, c11, c12, c13, c14, c15, c16, c17, c18, c19, c20, c21, c22, c23, c24, c25] := by
  match cs, h with
  | [c0, c1, c2, c3, c4, c5, c6, c7, c8, c9, c10, c11, c12, c13, c14, c15, c16, c17, c18, c19, c20, c21, c22, c23, c24, c25], _ => exact ⟨c0, c1, c2, c3, c4, c5, c6, c7, c8, c9, c10, c11, c12, c13, c14, c15, c16, c17, c18, c19, c20, c21, c22, c23, c24, c25, rfl⟩
theorem trod_op {n : Nat} {cs : List Value} {y : DataW H × List MemPlace} (h : DataW.trod enc Tryd.prog w base spare held n 39 cs = some y) : ∃ o : OpG, cs = o.cells.toList ∧ o.fine := by
  obtain ⟨xs, m, -, -, hl, hx, hf⟩ := DataW.trod_struct Tryd.underlying39 h
  obtain ⟨c0, c1, c2, c3, c4, c5, c6, c7, c8, c9, c10, c11, c12, c13, c14, c15, c16, c17, c18, c19, c20, c21, c22, c23, c24, c25, rfl⟩ := list26 (hl.trans kop)
  match xs, hx with
  | [y0, y1, y2, y3, y4, y5, y6, y7, y8, y9, y10, y11], _ =>
    have g0 : DataW.trod enc Tryd.prog w base spare held m 31 (([c0, c1, c2, c3, c4, c5, c6, c7, c8, c9, c10, c11, c12, c13, c14, c15, c16, c17, c18, c19, c20, c21, c22, c23, c24, c25].drop 0).take (Tryd.prog.cellsOf 31)) = some y0 := hf 0 _ rfl
    have g1 : DataW.trod enc Tryd.prog w base spare held m 33 (([c0, c1, c2, c3, c4, c5, c6, c7, c8, c9, c10, c11, c12, c13, c14, c15, c16, c17, c18, c19, c20, c21, c22, c23, c24, c25].drop 2).take (Tryd.prog.cellsOf 33)) = some y1 := hf 1 _ rfl
    have g2 : DataW.trod enc Tryd.prog w base spare held m 34 (([c0, c1, c2, c3, c4, c5, c6, c7, c8, c9, c10, c11, c12, c13, c14, c15, c16, c17, c18, c19, c20, c21, c22, c23, c24, c25].drop 10).take (Tryd.prog.cellsOf 34)) = some y2 := hf 2 _ rfl
    have g3 : DataW.trod enc Tryd.prog w base spare held m 31 (([c0, c1, c2, c3, c4, c5, c6, c7, c8, c9, c10, c11, c12, c13, c14, c15, c16, c17, c18, c19, c20, c21, c22, c23, c24, c25].drop 11).take (Tryd.prog.cellsOf 31)) = some y3 := hf 3 _ rfl
    have g4 : DataW.trod enc Tryd.prog w base spare held m 35 (([c0, c1, c2, c3, c4, c5, c6, c7, c8, c9, c10, c11, c12, c13, c14, c15, c16, c17, c18, c19, c20, c21, c22, c23, c24, c25].drop 13).take (Tryd.prog.cellsOf 35)) = some y4 := hf 4 _ rfl
    have g5 : DataW.trod enc Tryd.prog w base spare held m 3 (([c0, c1, c2, c3, c4, c5, c6, c7, c8, c9, c10, c11, c12, c13, c14, c15, c16, c17, c18, c19, c20, c21, c22, c23, c24, c25].drop 14).take (Tryd.prog.cellsOf 3)) = some y5 := hf 5 _ rfl
    have g6 : DataW.trod enc Tryd.prog w base spare held m 31 (([c0, c1, c2, c3, c4, c5, c6, c7, c8, c9, c10, c11, c12, c13, c14, c15, c16, c17, c18, c19, c20, c21, c22, c23, c24, c25].drop 15).take (Tryd.prog.cellsOf 31)) = some y6 := hf 6 _ rfl
    have g7 : DataW.trod enc Tryd.prog w base spare held m 9 (([c0, c1, c2, c3, c4, c5, c6, c7, c8, c9, c10, c11, c12, c13, c14, c15, c16, c17, c18, c19, c20, c21, c22, c23, c24, c25].drop 17).take (Tryd.prog.cellsOf 9)) = some y7 := hf 7 _ rfl
    have g8 : DataW.trod enc Tryd.prog w base spare held m 9 (([c0, c1, c2, c3, c4, c5, c6, c7, c8, c9, c10, c11, c12, c13, c14, c15, c16, c17, c18, c19, c20, c21, c22, c23, c24, c25].drop 18).take (Tryd.prog.cellsOf 9)) = some y8 := hf 8 _ rfl
    have g9 : DataW.trod enc Tryd.prog w base spare held m 9 (([c0, c1, c2, c3, c4, c5, c6, c7, c8, c9, c10, c11, c12, c13, c14, c15, c16, c17, c18, c19, c20, c21, c22, c23, c24, c25].drop 19).take (Tryd.prog.cellsOf 9)) = some y9 := hf 9 _ rfl
    have g10 : DataW.trod enc Tryd.prog w base spare held m 37 (([c0, c1, c2, c3, c4, c5, c6, c7, c8, c9, c10, c11, c12, c13, c14, c15, c16, c17, c18, c19, c20, c21, c22, c23, c24, c25].drop 20).take (Tryd.prog.cellsOf 37)) = some y10 := hf 10 _ rfl
    have g11 : DataW.trod enc Tryd.prog w base spare held m 37 (([c0, c1, c2, c3, c4, c5, c6, c7, c8, c9, c10, c11, c12, c13, c14, c15, c16, c17, c18, c19, c20, c21, c22, c23, c24, c25].drop 23).take (Tryd.prog.cellsOf 37)) = some y11 := hf 11 _ rfl
    rw [kst] at g0 g3 g6
    rw [kve] at g1
    rw [kkd] at g2
    rw [ksd] at g4
    rw [ki] at g5
    rw [ks] at g7 g8 g9
    rw [kan] at g10 g11
    obtain ⟨n0, n1, rfl, rfl⟩ := trod_st g0
    obtain ⟨v, hv⟩ := trod_ve g1
    obtain ⟨kd, rfl⟩ := trod_i Tryd.underlying34 g2
    obtain ⟨r0, r1, rfl, rfl⟩ := trod_st g3
    obtain ⟨sd, rfl⟩ := trod_i Tryd.underlying35 g4
    obtain ⟨ch, rfl⟩ := trod_i Tryd.underlying3 g5
    obtain ⟨u0, u1, rfl, rfl⟩ := trod_st g6
    obtain ⟨s0, rfl, hs0⟩ := trod_s Tryd.underlying9 g7
    obtain ⟨s1, rfl, hs1⟩ := trod_s Tryd.underlying9 g8
    obtain ⟨s2, rfl, hs2⟩ := trod_s Tryd.underlying9 g9
    obtain ⟨f0, f1, f2, rfl, rfl, rfl⟩ := trod_an g10
    obtain ⟨t0, t1, t2, rfl, rfl, rfl⟩ := trod_an g11
    simp only [List.cons.injEq, and_true] at hv
    obtain ⟨rfl, rfl, rfl, rfl, rfl, rfl, rfl, rfl⟩ := hv
    exact ⟨⟨n0, n1, v, kd, r0, r1, sd, ch, u0, u1, s0, s1, s2, f0, f1, f2, t0, t1, t2⟩, rfl, hs0, hs1, hs2⟩
set_option maxRecDepth 1000000 in
/-- an operation by value -/
theorem open_op {r : Reach} {b0 : Nat} {v : Value} {d : DataW H} {ps : List MemPlace} (hval : Value.okWide Tryd.prog w r b0 39 v) (hd : DataW.Trod enc Tryd.prog w base spare held 39 v d ps) : ∃ o : OpG, v = o.val ∧ o.fine := by
  obtain ⟨cs, rfl, hs, -⟩ := agg_struct Tryd.underlying39 hval
  obtain ⟨fuel, hf⟩ := hd
  obtain ⟨o, ho, hfi⟩ := trod_op hf
  refine ⟨o, ?_, hfi⟩
  have : cs.toList = o.cells.toList := ho
  exact congrArg Value.agg (Array.toList_inj.1 this)
/-- a list of operations in memory -/
def OpAt (w : World) (ao : Option Addr) (i : Nat) (o : OpG) : Prop := ∃ b off, ao = some ⟨b, off, none⟩ ∧ b < w.heap.size ∧ ∀ (j : Nat) (v : Value), o.cells[j]? = some v → w.cell? ⟨b, off + i * 26 + j, none⟩ = some v
def OpsAt (w : World) (ao : Option Addr) (L : List OpG) : Prop := ∀ (i : Nat) (o : OpG), L[i]? = some o → OpAt w ao i o
theorem OpAt.below {w w' : World} {ao : Option Addr} {i : Nat} {o : OpG} (h : OpAt w ao i o) (b : Below w.heap.size w w') : OpAt w' ao i o := by
  obtain ⟨b0, off, e, hb, hc⟩ := h
  exact ⟨b0, off, e, Nat.lt_of_lt_of_le hb b.size, fun j v hv => (b.cell (p := ⟨b0, off + i * 26 + j, none⟩) hb).trans (hc j v hv)⟩
theorem OpsAt.below {w w' : World} {ao : Option Addr} {L : List OpG} (h : OpsAt w ao L) (b : Below w.heap.size w w') : OpsAt w' ao L := fun i o hi => (h i o hi).below b
set_option maxRecDepth 1000000 in
theorem open_ops {v : Value} {d : DataW H} {ps : List MemPlace} {r : Reach} {b0 : Nat}
    (hval : Value.okWide Tryd.prog w r b0 22 v) (hd : DataW.Trod enc Tryd.prog w 0 spare held 22 v d ps) :
    ∃ (ao : Option Addr) (cap : Nat) (L : List OpG), v = .slice ao L.length cap ∧ L.length ≤ cap ∧ cap ≤ maxLen ∧ (∀ o ∈ L, o.fine) ∧ (ao = none → cap = 0) ∧ OpsAt w ao L := by
  obtain ⟨a0, len, cap, rfl⟩ := okWide_slice Tryd.underlying22 hval
  obtain ⟨fuel, hf⟩ := hd
  rcases Deep.open_slice Tryd.underlying22 hf with ⟨hcs, hx⟩ | ⟨a, len', cap', m, n, D, Pl, hcs, hb, hl, hm, hmm, hx, hi⟩
  · simp [Value.cells] at hcs
    obtain ⟨rfl, rfl, rfl⟩ := hcs
    exact ⟨none, 0, [], rfl, by simp, by simp, by simp, fun _ => rfl, fun i o h => by simp at h⟩
  · simp [Value.cells] at hcs
    obtain ⟨rfl, rfl, rfl⟩ := hcs
    rw [kop] at hi
    have hm' : len ≤ m := by rw [hmm]; split <;> omega
    have hex : ∀ i, i < len → ∃ o : OpG, o.fine ∧ OpAt w (some a) i o := fun i hil => by
      obtain ⟨b, off, spot⟩ := a
      have hs : spot = none := by
        obtain ⟨cs', h1, h2⟩ := hi 0 (by omega)
        obtain ⟨_, hl1, hat⟩ := World.cells?_some h1
        have h3 := hat 0 (by omega)
        rw [List.getElem?_eq_getElem (by omega)] at h3
        simpa [Addr.add] using World.cell?_spot h3
      subst hs
      obtain ⟨cs', h1, h2⟩ := hi i (by omega)
      obtain ⟨o, rfl, ho⟩ := trod_op h2
      obtain ⟨_, hl1, hat⟩ := World.cells?_some h1
      have key : ∀ (j : Nat) (v : Value), o.cells[j]? = some v → w.cell? ⟨b, off + i * 26 + j, none⟩ = some v := fun j v hv => by
        have hj : j < 26 := (Array.getElem?_eq_some_iff.1 hv).1
        have := hat j hj
        rw [Array.getElem?_toList, hv] at this
        simpa [add_plain] using this
      exact ⟨o, ho, b, off, rfl, World.block_lt_of_cell? _ _ (key 0 _ rfl), key⟩
    have hch : ∀ L, L ≤ len → ∃ A : List OpG, A.length = L ∧ (∀ o ∈ A, o.fine) ∧ OpsAt w (some a) A := by
      intro L
      induction L with
      | zero => exact fun _ => ⟨[], rfl, by simp, fun i o h => by simp at h⟩
      | succ L ih =>
        intro hL
        obtain ⟨A, hA, hAf, hAt⟩ := ih (by omega)
        obtain ⟨g, hgf, hg⟩ := hex L (by omega)
        refine ⟨A ++ [g], by simp [hA], fun o ho => ?_, fun i o hio => ?_⟩
        · rcases List.mem_append.1 ho with h | h
          · exact hAf o h
          · simp at h; subst h; exact hgf
        · by_cases h : i < A.length
          · rw [List.getElem?_append_left h] at hio; exact hAt i o hio
          · have hi2 := (List.getElem?_eq_some_iff.1 hio).1
            have : i = A.length := by simp at hi2; omega
            subst this
            rw [List.getElem?_append_right (by omega)] at hio
            simp at hio
            subst hio
            rw [hA]; exact hg
    obtain ⟨A, hA, hAf, hAt⟩ := hch len (Nat.le_refl _)
    subst hA
    exact ⟨some a, cap, A, rfl, hl, by omega, hAf, (fun h => by cases h), hAt⟩
end
end Go.Proofs.YtiamohfpohjdpaaDoor
