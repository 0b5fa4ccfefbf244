/- A SCRIPT THAT CAME IN, opened. -/
import Derived.ProofKit
import Derived.OpenShut
import Derived.ChangeArms
import Derived.Deep.Slices
import Derived.Test.YtfmmgijffneodaaChecked
namespace Go.Proofs.Ytfmmgijffneodaa
open Go.ChangeShapes Go.WideShapes Go.RowKit Go.Deep
set_option linter.unusedVariables false

structure ActG where
  kd : Int
  at' : Int
  k : Int
  sh : Bool
def ActG.val (a : ActG) : Value := .agg #[.int .i64 a.kd, .int .i64 a.at', .int .i64 a.k, .bool a.sh]
def ActAt (w : World) (ao : Option Addr) (i : Nat) (a : ActG) : Prop :=
  ∃ b off, ao = some ⟨b, off, none⟩ ∧ w.cell? ⟨b, off + i * 4, none⟩ = some (.int .i64 a.kd) ∧ w.cell? ⟨b, off + i * 4 + 1, none⟩ = some (.int .i64 a.at') ∧ w.cell? ⟨b, off + i * 4 + 2, none⟩ = some (.int .i64 a.k) ∧ w.cell? ⟨b, off + i * 4 + 3, none⟩ = some (.bool a.sh) ∧ b < w.heap.size
def ActsAt (w : World) (ao : Option Addr) (A : List ActG) : Prop := ∀ i (hi : i < A.length), ActAt w ao i A[i]
theorem act_of {H : Type} {enc : TypeId × Value → H} {w : World} {spare : Nat → Bool} {held : Bool} {base n : Nat} {b off : Nat} {i : Nat} {cs : List Value} {y : DataW H × List MemPlace}
    (hc : w.cells? base ((⟨b, off, none⟩ : Addr).add (i * 4)) 4 = some cs) (ht : DataW.trod enc Try.prog w base spare held n 24 cs = some y) : ∃ g : ActG, ActAt w (some ⟨b, off, none⟩) i g := by
  obtain ⟨xs, m, -, -, -, hx, hf⟩ := DataW.trod_struct Try.underlying24 ht
  obtain ⟨_, hl, hat⟩ := World.cells?_some hc
  have ki : Try.prog.cellsOf 3 = 1 := by kernel_rfl
  have kb : Try.prog.cellsOf 4 = 1 := by kernel_rfl
  match cs, hl, xs, hx with
  | [c0, c1, c2, c3], _, [y0, y1, y2, y3], _ =>
    have g0 : DataW.trod enc Try.prog w base spare held m 3 (([c0, c1, c2, c3].drop 0).take (Try.prog.cellsOf 3)) = some y0 := hf 0 _ rfl
    have g1 : DataW.trod enc Try.prog w base spare held m 3 (([c0, c1, c2, c3].drop 1).take (Try.prog.cellsOf 3)) = some y1 := hf 1 _ rfl
    have g2 : DataW.trod enc Try.prog w base spare held m 3 (([c0, c1, c2, c3].drop 2).take (Try.prog.cellsOf 3)) = some y2 := hf 2 _ rfl
    have g3 : DataW.trod enc Try.prog w base spare held m 4 (([c0, c1, c2, c3].drop 3).take (Try.prog.cellsOf 4)) = some y3 := hf 3 _ rfl
    rw [ki] at g0 g1 g2
    rw [kb] at g3
    obtain ⟨n0, e0, -, -⟩ := DataW.trod_int Try.underlying3 g0
    obtain ⟨n1, e1, -, -⟩ := DataW.trod_int Try.underlying3 g1
    obtain ⟨n2, e2, -, -⟩ := DataW.trod_int Try.underlying3 g2
    obtain ⟨b3, e3, -⟩ := DataW.trod_bool Try.underlying4 g3
    obtain rfl : c0 = .int .i64 n0 := by simpa using e0
    obtain rfl : c1 = .int .i64 n1 := by simpa using e1
    obtain rfl : c2 = .int .i64 n2 := by simpa using e2
    obtain rfl : c3 = .bool b3 := by simpa using e3
    have a0 := hat 0 (by omega)
    have a1 := hat 1 (by omega)
    have a2 := hat 2 (by omega)
    have a3 := hat 3 (by omega)
    simp only [add_plain, Nat.add_zero] at a0 a1 a2 a3
    refine ⟨⟨n0, n1, n2, b3⟩, b, off, rfl, a0, a1, a2, a3, ?_⟩
    exact World.block_lt_of_cell? _ _ a0
theorem open_acts {H : Type} {enc : TypeId × Value → H} {w : World} {spare : Nat → Bool} {held : Bool} {v : Value} {d : DataW H} {ps : List MemPlace} {r : Reach} {b0 : Nat}
    (hval : Value.okWide Try.prog w r b0 22 v) (hd : DataW.Trod enc Try.prog w 0 spare held 22 v d ps) : ∃ (ao : Option Addr) (cap : Nat) (A : List ActG), v = .slice ao A.length cap ∧ A.length ≤ maxLen ∧ ActsAt w ao A := by
  obtain ⟨a0, len, cap, rfl⟩ := okWide_slice Try.underlying22 hval
  obtain ⟨fuel, hf⟩ := hd
  rcases Deep.open_slice Try.underlying22 hf with ⟨hcs, hx⟩ | ⟨a, len', cap', m, n, D, Pl, hcs, hb, hl, hm, hmm, hx, hi⟩
  · simp [Value.cells] at hcs
    obtain ⟨rfl, rfl, rfl⟩ := hcs
    exact ⟨none, 0, [], rfl, by simp, fun i h => by cases h⟩
  · simp [Value.cells] at hcs
    obtain ⟨rfl, rfl, rfl⟩ := hcs
    have k4 : Try.prog.cellsOf 24 = 4 := by kernel_rfl
    rw [k4] at hi
    have hm' : len ≤ m := by rw [hmm]; split <;> omega
    have hex : ∀ i, i < len → ∃ g : ActG, ActAt w (some a) i g := fun i hil => by
      obtain ⟨b, off, spot⟩ := a
      have hs : spot = none := by
        obtain ⟨cs', h1, h2⟩ := hi 0 (by omega)
        obtain ⟨_, hl1, hat⟩ := World.cells?_some h1
        have h3 := hat 0 (by omega)
        rw [List.getElem?_eq_getElem (by omega)] at h3
        simpa [Addr.add] using World.cell?_spot h3
      subst hs
      obtain ⟨cs', h1, h2⟩ := hi i (by omega)
      exact act_of h1 h2
    have hch : ∀ L, L ≤ len → ∃ A : List ActG, A.length = L ∧ ActsAt w (some a) A := by
      intro L
      induction L with
      | zero => exact fun _ => ⟨[], rfl, fun i h => by cases h⟩
      | succ L ih =>
        intro hL
        obtain ⟨A, hA, hAt⟩ := ih (by omega)
        obtain ⟨g, hg⟩ := hex L (by omega)
        refine ⟨A ++ [g], by simp [hA], fun i hi => ?_⟩
        by_cases h : i < A.length
        · rw [List.getElem_append_left h]; exact hAt i h
        · have : i = A.length := by simp at hi; omega
          subst this
          rw [List.getElem_append_right (by omega)]
          simp only [Nat.sub_self, List.getElem_cons_zero]
          rw [hA]; exact hg
    obtain ⟨A, hA, hAt⟩ := hch len (Nat.le_refl _)
    exact ⟨some a, cap, A, by rw [hA], by rw [hA]; omega, hAt⟩
theorem ActsAt.below {w w' : World} {ao : Option Addr} {A : List ActG} (h : ActsAt w ao A) (b : Below w.heap.size w w') : ActsAt w' ao A := by
  intro i hi
  obtain ⟨b0, off, e, h0, h1, h2, h3, hlt⟩ := h i hi
  have key : ∀ (n : Nat) (v : Value), w.cell? ⟨b0, n, none⟩ = some v → w'.cell? ⟨b0, n, none⟩ = some v := fun n v h => (b.cell hlt).trans h
  exact ⟨b0, off, e, key _ _ h0, key _ _ h1, key _ _ h2, key _ _ h3, Nat.lt_of_lt_of_le hlt b.size⟩
end Go.Proofs.Ytfmmgijffneodaa
