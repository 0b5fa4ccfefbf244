/- ORDER IS OF STAMPS ALONE: the plain side. -/
import Derived.Test.YtgmhjgknfeihiaaDoorOMost
import Derived.Test.YtgmhjgknfeihiaaDoorOSorted
namespace Go.Proofs.YtgmhjgknfeihiaaDoor
open Go.RowKit Go.Joins
set_option linter.unusedSimpArgs false
set_option linter.unusedVariables false
theorem closed_perm' {L S : List OpG} (h : S.Perm L) (hc : ClosedP L) : ClosedP S := by
  have hi : (ids S).Perm (ids L) := h.map _
  exact ⟨fun o ho => hc.1 o (h.mem_iff.1 ho), hi.nodup_iff.2 hc.2.1, fun o ho r hr h0 => hi.mem_iff.2 (hc.2.2 o (h.mem_iff.1 ho) r hr h0)⟩
theorem closedB_perm {L S : List OpG} (h : S.Perm L) : closedB S = closedB L := by
  rw [Bool.eq_iff_iff, closed_iff, closed_iff]
  exact ⟨closed_perm' h.symm, closed_perm' h⟩
theorem sorted_lt' {S : List OpG} (hs : SortedO S) {i j : Nat} {a b : OpG} (hij : i < j) (ha : S[i]? = some a) (hb : S[j]? = some b) : ¬ ltO b a := by
  obtain ⟨h1, rfl⟩ := List.getElem?_eq_some_iff.1 ha
  obtain ⟨h2, rfl⟩ := List.getElem?_eq_some_iff.1 hb
  exact List.pairwise_iff_getElem.1 hs i j h1 h2 hij
theorem fld (x m n : Int) (p q : Prop) [Decidable p] [Decidable q] : (if q then mx (if p then mx x m else x) n else (if p then mx x m else x)) = (if p then mx (if q then mx x n else x) m else (if q then mx x n else x)) := by
  by_cases hp : p <;> by_cases hq : q <;> simp only [hp, hq, if_true, if_false]
  unfold mx
  repeat' split
  all_goals omega
theorem with_comm (v : V8) (m r n q : Int) : (v.with m r).with n q = (v.with n q).with m r := by
  simp only [V8.with, V8.mk.injEq]
  exact ⟨fld _ _ _ _ _, fld _ _ _ _ _, fld _ _ _ _ _, fld _ _ _ _ _, fld _ _ _ _ _, fld _ _ _ _ _, fld _ _ _ _ _, fld _ _ _ _ _⟩
theorem fold_perm {L S : List OpG} (h : S.Perm L) : ∀ v : V8, S.foldl (fun v o => v.with o.n o.r) v = L.foldl (fun v o => v.with o.n o.r) v := by
  induction h with
  | nil => intro v; rfl
  | cons x _ ih => intro v; exact ih _
  | swap x y l => intro v; simp only [List.foldl_cons]; rw [with_comm]
  | trans _ _ ih1 ih2 => intro v; rw [ih1, ih2]
theorem mostP_perm {L S : List OpG} (h : S.Perm L) : mostP S = mostP L := fold_perm h _
theorem turned_perm (L : List OpG) (f : Nat) : (L.drop f ++ L.take f).Perm L := by
  have := List.perm_append_comm (l₁ := L.drop f) (l₂ := L.take f)
  rwa [List.take_append_drop] at this
/-- how often an operation is there -/
def cntO (p : OpG) (L : List OpG) : Nat := L.countP (fun x => x.beq p)
theorem cntO_perm (p : OpG) {L S : List OpG} (h : S.Perm L) : cntO p S = cntO p L := h.countP_eq _
theorem cntO_le (p : OpG) (L : List OpG) : cntO p L ≤ L.length := List.countP_le_length
theorem cntO_snoc (p : OpG) {L : List OpG} {k : Nat} {x : OpG} (h : L[k]? = some x) : cntO p (L.take (k + 1)) = cntO p (L.take k) + (if x.beq p = true then 1 else 0) := by
  rw [take_snoc h]
  unfold cntO
  rw [List.countP_append, List.countP_singleton]
theorem cntO_take_le (p : OpG) (L : List OpG) (k : Nat) : cntO p (L.take k) ≤ k := Nat.le_trans (cntO_le _ _) (by simp; omega)
/-- the number from which it is turned -/
def fromP (z : Int) (n : Nat) : Nat := ((if z < 0 then -(z + 1) else z).tmod n).toNat
theorem fromP_lt (z : Int) {n : Nat} (hn : 0 < n) : fromP z n < n ∧ (if z < 0 then -(z + 1) else z).tmod n = (fromP z n : Int) := by
  unfold fromP
  have h0 : 0 ≤ (if z < 0 then -(z + 1) else z) := by split <;> omega
  generalize (if z < 0 then -(z + 1) else z) = y at *
  have h1 := Int.tmod_nonneg (n : Int) h0
  have h2 := Int.tmod_lt_of_pos y (show 0 < (n : Int) by omega)
  omega
end Go.Proofs.YtgmhjgknfeihiaaDoor
