/- ROWS OF A TEXT's ELEMENTS. -/
import Derived.Test.YtohpablkgfkelaaFLandsP
namespace Go.Proofs.Ytohpablkgfkelaa
open Go.RowKit Go.Joins
set_option linter.unusedSimpArgs false
set_option linter.unusedVariables false

/-- all elements of a text, one of them taken away -/
theorem els_del {S : Tx} (hn : S.L.Nodup) {k : St} {i : Nat} (hi : S.L[i]? = some k) : S.els.set i ⟨k, S.ch k, true⟩ = (S.del k).els := by
  apply List.ext_getElem?
  intro j
  unfold Tx.els
  rw [List.getElem?_set, List.getElem?_map, List.length_map]
  show _ = (S.L.map (S.del k).el)[j]?
  rw [List.getElem?_map]
  by_cases hj : i = j
  · subst hj
    rw [if_pos rfl, if_pos (List.getElem?_eq_some_iff.1 hi).1, hi]
    simp [Tx.el, Tx.del, setH]
  · rw [if_neg hj]
    cases hx : S.L[j]? with
    | none => rfl
    | some x =>
      have hne : x ≠ k := fun e => by
        subst e
        obtain ⟨h1, h2⟩ := List.getElem?_eq_some_iff.1 hi
        obtain ⟨h3, h4⟩ := List.getElem?_eq_some_iff.1 hx
        rw [← h2] at h4
        exact hj ((List.getElem_inj hn).1 h4.symm)
      simp [Tx.el, Tx.del, setH, hne]
theorem elL_set : ∀ (l : List El) (i : Nat) (x : El), l[i]? = some x → elL (l.set i ⟨x.k, x.c, true⟩) = (elL l).set (i * 4 + 3) (.bool true)
  | [], i, x, h => by simp at h
  | y :: l, 0, x, h => by
    simp at h
    subst h
    simp [elL, elC]
  | y :: l, i + 1, x, h => by
    have ih := elL_set l i x (by simpa using h)
    unfold elL at *
    rw [List.set_cons_succ, List.flatMap_cons, ih, List.flatMap_cons, List.set_append, if_neg (by simp [elC]; omega)]
    congr 2
    simp [elC]
    omega
theorem RowEl.gone {w : World} {base : Nat} {v : Value} {l : List El} (h : RowEl w base v l) {i : Nat} {x : El} (hx : l[i]? = some x) :
    ∃ B cap cur, v = .slice (some ⟨B, 0, none⟩) l.length cap ∧ base ≤ B ∧ w.heap[B]? = some (.cells cur 44 (0, 0)) ∧ cur[i * 4 + 3]? = some (.bool x.g) ∧
      RowEl (w.setCell ⟨B, i * 4 + 3, none⟩ (.bool true)) base v (l.set i ⟨x.k, x.c, true⟩) := by
  have hil := (List.getElem?_eq_some_iff.1 hx).1
  rcases h.2 with ⟨rfl, h0⟩ | ⟨B, cap, cur, he, hbase, hb, hnc, hc, hs, ht⟩
  · omega
  · have h1 := elL_get l i x 3 (.bool x.g) hx rfl
    rw [← ht, List.getElem?_take, if_pos (by omega), Array.getElem?_toList] at h1
    refine ⟨B, cap, cur, he, hbase, hb, h1, by rw [elL_length, List.length_set], .inr ⟨B, cap, cur.setIfInBounds (i * 4 + 3) (.bool true), by rw [List.length_set]; exact he, hbase, blk_set hb _, by rw [List.length_set]; exact hnc, hc, by simpa using hs, ?_⟩⟩
    rw [elL_set l i x hx, ← ht, List.length_set, Array.toList_setIfInBounds, List.take_set]
theorem placeE_in {S : Tx} {k : St} (hk : k ∈ S.L) : placeE S.els k = (S.L.idxOf k : Nat) := by
  unfold placeE Tx.els
  have e : (S.L.map S.el).map (·.k) = S.L := by rw [List.map_map]; simp [Function.comp_def, Tx.el]
  rw [e, if_pos hk]
theorem placeE_out {S : Tx} {k : St} (hk : k ∉ S.L) : placeE S.els k = -1 := by
  unfold placeE Tx.els
  have e : (S.L.map S.el).map (·.k) = S.L := by rw [List.map_map]; simp [Function.comp_def, Tx.el]
  rw [e, if_neg hk]
theorem RowEl.ch {F : Nat → Prop} {w w' : World} {base : Nat} {v : Value} {l : List El} (h : RowEl w base v l) (c : Ch F w w') (hF : ∀ x, F x → x < base) : RowEl w' base v l :=
  own_ch h c (fun b hb hf => by have := (h.lt b hb).1; have := hF b hf; omega)
theorem RowEl.later {w w' : World} {base : Nat} {v : Value} {l : List El} (h : RowEl w base v l) (b : Below w.heap.size w w') : RowEl w' base v l := own_ch h (Ch.of_below (F := fun _ => False) b) (fun _ _ h => h)
theorem els_len (S : Tx) : S.els.length = S.L.length := by simp [Tx.els]
theorem RowEl.formS {w : World} {base : Nat} {v : Value} {S : Tx} {n : Nat} (h : RowEl w base v S.els) (hn : S.L.length = n) : ∃ ao cap, v = .slice ao n cap ∧ ElsAt w ao S.els := by
  obtain ⟨ao, cap, hv, he, -⟩ := h.form
  rw [els_len, hn] at hv
  exact ⟨ao, cap, hv, he⟩
theorem same_els (w : World) (ao bo : Option Addr) (ca cb : Nat) (S S' : Tx) (n m : Nat) (hA : ElsAt w ao S.els) (hB : ElsAt w bo S'.els) (hn : S.L.length = n) (hm : S'.L.length = m) (hl : n < 4294967296) (hl2 : m < 4294967296) (b : Bool) (hb : decide (S.els = S'.els) = b) :
    Calls Try.prog 15 #[.slice ao n ca, .slice bo m cb] w fun e w' => e = .returned (.bool b) ∧ Below w.heap.size w w' := by
  have := same_any w ao bo ca cb S.els S'.els hA hB (by rw [els_len]; omega) (by rw [els_len]; omega)
  rw [els_len, els_len, hn, hm, hb] at this
  exact this
theorem placeR_els (w : World) (ao : Option Addr) (ca : Nat) (S : Tx) (n : Nat) (hA : ElsAt w ao S.els) (hn : S.L.length = n) (hl : n < 4294967296) (k : St) :
    Calls Try.prog 18 #[.slice ao n ca, encS k] w fun e w' => e = .returned (.int .i64 (placeE S.els k)) ∧ Below w.heap.size w w' := by
  have := placeR_any w ao ca S.els hA (by rw [els_len]; omega) k
  rw [els_len, hn] at this
  exact this
end Go.Proofs.Ytohpablkgfkelaa
