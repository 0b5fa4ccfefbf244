/- ops.Sort: what it answers: the operations by their stamps, in a row of the call's own. -/
import Derived.Test.YtiamohfpohjdpaaDoorORows
import Derived.Test.YtiamohfpohjdpaaDoorOCmp
import Derived.Test.YtiamohfpohjdpaaDoorSortE
namespace Go.Proofs.YtiamohfpohjdpaaDoor
open Go.Shelf Go.RowKit Go.Lib Go.Sort Go.Joins
set_option linter.unusedSimpArgs false
set_option linter.unusedVariables false
instance : Inhabited OpG := ⟨⟨0, 0, ⟨0, 0, 0, 0, 0, 0, 0, 0⟩, 0, 0, 0, 0, 0, 0, 0, nul, nul, nul, 0, 0, false, 0, 0, false⟩⟩
/-- which one comes first -/
def ltO (a b : OpG) : Prop := a.n < b.n ∨ (a.n = b.n ∧ a.r < b.r)
theorem cmpS_lt (n r m q : Int) : cmpS n r m q < 0 ↔ n < m ∨ (n = m ∧ r < q) := by
  unfold cmpS cmpI
  repeat' split
  all_goals omega
theorem ltOf_iff (a b : OpG) : ltOf cfO a b = true ↔ ltO a b := by
  unfold ltOf cfO ltO
  rw [decide_eq_true_eq, cmpS_lt]
theorem ltOf_not (a b : OpG) : ltOf cfO a b = false ↔ ¬ ltO a b := by
  rw [← ltOf_iff, Bool.not_eq_true]
theorem swoO : SWO (ltOf cfO) where
  irrefl := fun x => by rw [ltOf_not]; unfold ltO; omega
  trans := fun x y z h k => by rw [ltOf_iff] at *; unfold ltO at *; omega
  ntrans := fun x y z h k => by rw [ltOf_not] at *; unfold ltO at *; omega
def SortedO (S : List OpG) : Prop := S.Pairwise fun a b => ¬ ltO b a
/-- the operations of L by their stamps: those that are one in that stand as they stood, if all did -/
structure SortOf (L S : List OpG) : Prop where
  perm : S.Perm L
  sorted : SortedO S
  stays : SortedO L → S = L
theorem get_toArray (L : List OpG) (i : Nat) (h : i < L.length) : L.toArray[i]! = L[i] := by
  rw [getElem!_pos L.toArray i (by simpa using h)]
  simp
theorem sortedIn_iff (L : List OpG) : SortedIn (ltOf cfO) 0 L.length L.toArray ↔ SortedO L := by
  unfold SortedIn SortedO
  rw [List.pairwise_iff_getElem]
  constructor
  · intro h i j hi hj hij
    have := h i j (Nat.zero_le _) hij hj
    rw [get_toArray L i hi, get_toArray L j hj] at this
    exact (ltOf_not _ _).1 this
  · intro h i j _ hij hj
    rw [get_toArray L i (by omega), get_toArray L j hj]
    exact (ltOf_not _ _).2 (h i j (by omega) hj hij)
theorem sortOf_of {L : List OpG} {d' : Array OpG} (h : Way (ltOf cfO) L.length L.toArray d') (hs : SortedIn (ltOf cfO) 0 L.length d') : SortOf L d'.toList := by
  have hz : d'.size = L.length := by have := h.perm.1; simpa using this
  have hz2 : d'.toList.length = L.length := by simpa using hz
  have hp := h.perm.2.2
  have e1 : d'.extract 0 L.length = d' := by rw [← hz]; simp
  have e2 : L.toArray.extract 0 L.length = L.toArray := by
    have : L.length = L.toArray.size := by simp
    rw [this]; simp
  rw [e1, e2] at hp
  refine ⟨by simpa using hp, ?_, fun hL => ?_⟩
  · rw [← sortedIn_iff, hz2]
    simpa using hs
  · have := h.stays ((sortedIn_iff L).2 hL)
    rw [this]
/-! ### the sort's worlds in the words of ownership -/
def encO (o : OpG) : List Value := o.cells.toList
theorem encO_len (o : OpG) : (encO o).length = 26 := rfl
theorem holds_blk {w : World} {B : Nat} {cur : Array Value} {T : TypeId} {L : List OpG} (hb : w.heap[B]? = some (.cells cur T (0, 0))) (ht : cur.toList.take (L.length * 26) = cellsL L) : HoldsK encO 26 w B 0 L.toArray := by
  intro t htl
  rw [size_flatK] at htl
  simp only [List.size_toArray] at htl
  refine ⟨?_, blk_free hb _⟩
  rw [get_flatK _ _ _ _ (by simpa using htl)]
  have hi : t / 26 < L.length := by omega
  rw [get_toArray L _ hi, blk_cell hb, Nat.zero_add]
  have h1 := cellsL_get L (t / 26) (t % 26) L[t / 26] (List.getElem?_eq_getElem hi) (by omega)
  rw [show t / 26 * 26 + t % 26 = t by omega, ← ht, List.getElem?_take, if_pos (by omega), Array.getElem?_toList] at h1
  rw [h1]
  have hlt : t % 26 < (encO L[t / 26]).length := by rw [encO_len]; omega
  show _ = some ((encO L[t / 26])[t % 26]!)
  rw [getElem!_pos (encO L[t / 26]) (t % 26) hlt, ← Array.getElem?_toList]
  exact List.getElem?_eq_getElem hlt
theorem rowK_blk {w : World} {B : Nat} {cur : Array Value} {T : TypeId} {L : List OpG} (hb : w.heap[B]? = some (.cells cur T (0, 0))) (ht : cur.toList.take (L.length * 26) = cellsL L) : RowK encO 26 w B 0 L.toArray :=
  ⟨encO_len, op_one, holds_blk hb ht, heap_lt hb⟩
theorem swk_ch {w0 W : World} {B : Nat} {d : Array OpG} (h : SWK encO 26 w0 B 0 d W) : Ch (fun x => x = B) w0 W := by
  obtain ⟨n, os, rfl⟩ := h
  refine ⟨rfl, rfl, rfl, ?_, fun k hk hn => ?_⟩
  · unfold sortWorldK
    rw [size_grow, putRowK, size_putRow]
    exact Nat.le_add_right _ _
  · unfold sortWorldK
    rw [heap_grow_old _ _ (by rw [putRowK, size_putRow]; exact hk)]
    unfold putRowK putRow mapBlock
    show (w0.heap.modify B _)[k]? = _
    rw [Array.getElem?_modify, if_neg (fun e => hn e.symm)]
theorem swk_blk {w0 W : World} {B : Nat} {d : Array OpG} {cur : Array Value} {T : TypeId} (h : SWK encO 26 w0 B 0 d W) (hb : w0.heap[B]? = some (.cells cur T (0, 0))) : ∃ cur', W.heap[B]? = some (.cells cur' T (0, 0)) ∧ cur'.size = cur.size := by
  obtain ⟨n, os, rfl⟩ := h
  refine ⟨putCells id 0 (flatK encO 26 d) cur, ?_, by simp [putCells]⟩
  unfold sortWorldK
  rw [heap_grow_old _ _ (by rw [putRowK, size_putRow]; exact heap_lt hb)]
  unfold putRowK putRow mapBlock
  show (w0.heap.modify B _)[B]? = _
  rw [Array.getElem?_modify, if_pos rfl, hb]
  rfl
theorem swk_row {w0 W : World} {B : Nat} {d : Array OpG} {cur' : Array Value} {T : TypeId} {L : List OpG} (h : SWK encO 26 w0 B 0 d W) (R : RowK encO 26 w0 B 0 L.toArray) (hs : d.size = L.length) (hb : W.heap[B]? = some (.cells cur' T (0, 0))) (hz : L.length * 26 ≤ cur'.size) : cur'.toList.take (d.toList.length * 26) = cellsL d.toList := by
  have hH := h.holds R.hblk R.hH (by simpa using hs)
  apply List.ext_getElem?
  intro t
  have hdl : d.toList.length = L.length := by simpa using hs
  rw [List.getElem?_take]
  by_cases ht : t < d.toList.length * 26
  · rw [if_pos ht]
    have hi : t / 26 < d.toList.length := by omega
    have hc := (HoldsK.cell hH (i := t / 26) (c := t % 26) (by simpa using hi) (by omega)).1
    rw [show 0 + t / 26 * 26 + t % 26 = t by omega, blk_cell hb] at hc
    rw [Array.getElem?_toList, hc]
    have h1 := cellsL_get d.toList (t / 26) (t % 26) d.toList[t / 26] (List.getElem?_eq_getElem hi) (by omega)
    rw [show t / 26 * 26 + t % 26 = t by omega] at h1
    rw [h1]
    have hlt : t % 26 < (encO d.toList[t / 26]).length := by rw [encO_len]; omega
    have e : d[t / 26]! = d.toList[t / 26] := by
      rw [getElem!_pos d _ (by simpa using hi)]
      simp
    rw [e, getElem!_pos (encO d.toList[t / 26]) (t % 26) hlt, ← Array.getElem?_toList]
    exact (List.getElem?_eq_getElem hlt).symm
  · rw [if_neg ht, List.getElem?_eq_none (by rw [cellsL_length]; omega)]
/-! ### the stable sort here -/
theorem eg_sort : ∀ (args : Array Value) w, (callFunc 48 args).run Tryd.prog w = .ok (.enter 48 args) w := enters_of Tryd.func48 (by kernel_rfl) rfl
theorem cmpLaysO (blk off size : Nat) (w : World) : CmpLays Tryd.prog 48 #[] encO 26 cfO blk off size w := fun _ _ _ _ x y => sortC_x x y _
theorem stable_here {w : World} {B cap : Nat} {cur : Array Value} {T : TypeId} {L : List OpG} (hb : w.heap[B]? = some (.cells cur T (0, 0))) (ht : cur.toList.take (L.length * 26) = cellsL L) (hn : L.length < 4294967296) :
    Calls Tryd.prog 67 #[.slice (some ⟨B, 0, none⟩) L.length cap, .int .i64 L.length, .func (.func 48) #[] #[]] w fun e w' => e = .returned (.tuple #[]) ∧ ∃ d', Aside (Way (ltOf cfO) L.length L.toArray d' ∧ SortedIn (ltOf cfO) 0 L.length d') ∧ SWK encO 26 w B 0 d' w' := by
  have R := rowK_blk hb ht
  exact stable_gen (P := Tryd.prog) ty_here Tryd.func88 Tryd.func84 Tryd.func78 Tryd.func77 Tryd.func67 26 (fun w => by kernel_rfl) (fun w => by kernel_rfl) encO cfO 48 #[] B 0 cap L.length L.toArray L.toArray w w eg_sort (cmpLaysO _ _ _ _) swoO R rfl (SWK.start R.hH) (by simp) (by simp; omega)
/-- slices.SortStableFunc of a row of the call's own -/
theorem sortStable_here (w : World) (base B cap : Nat) (L : List OpG) (h : OwnO w base (.slice (some ⟨B, 0, none⟩) L.length cap) L) (hn : L.length < 4294967296) :
    Calls Tryd.prog 47 #[.slice (some ⟨B, 0, none⟩) L.length cap, .func (.func 48) #[] #[]] w fun e w' => e = .returned (.tuple #[]) ∧ ∃ S, SortOf L S ∧ OwnO w' base (.slice (some ⟨B, 0, none⟩) L.length cap) S ∧ Ch (fun x => x = B) w w' := by
  rcases h.form with ⟨e, _⟩ | ⟨B', cp, cur, e, hB, hb, hnc, hc, hs, ht⟩
  · cases e
  cases e
  have HS := Lib.hid (stable_here (cap := cap) hb ht hn)
  have R := rowK_blk hb ht
  have fin : ∀ (d' : Array OpG) w', Aside (Way (ltOf cfO) L.length L.toArray d' ∧ SortedIn (ltOf cfO) 0 L.length d') → SWK encO 26 w B 0 d' w' → ∃ S, SortOf L S ∧ OwnO w' base (.slice (some ⟨B, 0, none⟩) L.length cap) S ∧ Ch (fun x => x = B) w w' := by
    intro d' w' hw hk
    have hd : d'.size = L.length := by have := hw.out.1.perm.1; simpa using this
    obtain ⟨cur', hb', hz'⟩ := swk_blk hk hb
    have hrow := swk_row hk R hd hb' (by omega)
    have hdl : d'.toList.length = L.length := by simpa using hd
    refine ⟨d'.toList, sortOf_of hw.out.1 hw.out.2, ?_, swk_ch hk⟩
    have := OwnO.mk (w := w') hB hb' (L := d'.toList) (cap := cap) (by omega) hc (by omega) hrow
    rwa [hdl] at this
  have FIN := Lib.hid fin
  clear h hb hnc hc hs ht R fin hB
  go_enter Tryd.func47, Tryd.ntmps47
  go_wp2_with (go_at_call 67; with_reducible refine HS.out.mono ?_; rintro e w' ⟨rfl, d', hw, hk⟩)
  go_end0
  exact ⟨rfl, FIN.out d' _ hw hk⟩
theorem sortOf_nil : SortOf [] [] := ⟨List.Perm.refl _, List.Pairwise.nil, fun _ => rfl⟩
set_option maxHeartbeats 2000000 in
/-- .. of the nil slice -/
theorem stable_nil (w : World) : Calls Tryd.prog 67 #[.slice none 0 0, .int .i64 0, .func (.func 48) #[] #[]] w fun e w' => e = .returned (.tuple #[]) ∧ w' = w := by
  have hi : Calls Tryd.prog 77 #[.slice none 0 0, .int .i64 0, .int .i64 0, .func (.func 48) #[] #[]] w fun e w' => e = .returned (.tuple #[]) ∧ w' = w := by
    go_enter Tryd.func77, Tryd.ntmps77
    go_wp2
    refine wp_loop_rounds 1 ?_
    rw [rounds_succ]
    go_wp2
    go_end0
    exact ⟨rfl, rfl⟩
  have HI := Lib.hid hi
  clear hi
  go_enter Tryd.func67, Tryd.ntmps67
  go_wp2
  refine wp_loop_rounds 1 ?_
  rw [rounds_succ]
  go_wp2_with (go_at_call 77; with_reducible refine HI.out.mono ?_; rintro e w' ⟨rfl, rfl⟩)
  refine wp_loop_rounds 1 ?_
  rw [rounds_succ]
  go_wp2
  go_end0
  exact ⟨rfl, rfl⟩
theorem sortStable_nil (w : World) : Calls Tryd.prog 47 #[.slice none 0 0, .func (.func 48) #[] #[]] w fun e w' => e = .returned (.tuple #[]) ∧ w' = w := by
  have HS := Lib.hid (stable_nil w)
  go_enter Tryd.func47, Tryd.ntmps47
  go_wp2_with (go_at_call 67; with_reducible refine HS.out.mono ?_; rintro e w' ⟨rfl, rfl⟩)
  go_end0
  exact ⟨rfl, rfl⟩
end Go.Proofs.YtiamohfpohjdpaaDoor
