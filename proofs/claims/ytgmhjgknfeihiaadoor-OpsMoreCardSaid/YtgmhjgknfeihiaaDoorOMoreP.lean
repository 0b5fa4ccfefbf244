/- A SET GROWS CLOSED: the plain side. -/
import Derived.Test.YtgmhjgknfeihiaaDoorOMost
import Derived.Test.YtgmhjgknfeihiaaDoorORef
namespace Go.Proofs.YtgmhjgknfeihiaaDoor
open Go.RowKit Go.Joins
set_option linter.unusedSimpArgs false
set_option linter.unusedVariables false
theorem list_snoc {α : Type} {p : List α → Prop} (h0 : p []) (hs : ∀ L o, p L → p (L ++ [o])) (L : List α) : p L := by
  have key : ∀ M : List α, p M.reverse := by
    intro M
    induction M with
    | nil => exact h0
    | cons o M ih => rw [List.reverse_cons]; exact hs _ _ ih
  have := key L.reverse
  rwa [List.reverse_reverse] at this
theorem nth_with (v : V8) (n r : Int) (k : Nat) (hk : k < 8) : (v.with n r).nth k = if r = (k : Int) then mx (v.nth k) n else v.nth k := by
  unfold V8.nth
  rw [at_with v n r (k : Int) (by omega) (by omega)]
/-- each entry is none, or some operation's counter -/
theorem mostP_mem (L : List OpG) : ∀ k : Nat, k < 8 → (mostP L).nth k = 0 ∨ ((mostP L).nth k, (k : Int)) ∈ ids L := by
  refine list_snoc (p := fun L => ∀ k : Nat, k < 8 → (mostP L).nth k = 0 ∨ ((mostP L).nth k, (k : Int)) ∈ ids L) ?_ (fun L o ih => ?_) L
  · intro k hk; left; rcases nat8 hk with rfl | rfl | rfl | rfl | rfl | rfl | rfl | rfl <;> rfl
  · intro k hk
    have hi : ids (L ++ [o]) = ids L ++ [o.id] := by simp [ids]
    rw [mostP_snoc, nth_with _ _ _ _ hk, hi]
    have h := ih k hk
    split
    · rename_i e
      by_cases hm : o.n > (mostP L).nth k
      · right
        rw [show mx ((mostP L).nth k) o.n = o.n by unfold mx; rw [if_pos hm]]
        rw [List.mem_append]; right
        simp [OpG.id, e]
      · rw [show mx ((mostP L).nth k) o.n = (mostP L).nth k by unfold mx; rw [if_neg hm]]
        exact h.imp (fun h => h) (fun h => List.mem_append.2 (.inl h))
    · exact h.imp (fun h => h) (fun h => List.mem_append.2 (.inl h))
theorem mostP_ge (L : List OpG) : ∀ k : Nat, k < 8 → 0 ≤ (mostP L).nth k := by
  refine list_snoc (p := fun L => ∀ k : Nat, k < 8 → 0 ≤ (mostP L).nth k) ?_ (fun L o ih => ?_) L
  · intro k hk; rcases nat8 hk with rfl | rfl | rfl | rfl | rfl | rfl | rfl | rfl <;> decide
  · intro k hk
    rw [mostP_snoc, nth_with _ _ _ _ hk]
    have := ih k hk
    split
    · have := mx_left ((mostP L).nth k) o.n; omega
    · exact this
theorem mostP_has (L : List OpG) : ∀ o ∈ L, ∀ k : Nat, k < 8 → o.r = (k : Int) → o.n ≤ (mostP L).nth k := by
  refine list_snoc (p := fun L => ∀ o ∈ L, ∀ k : Nat, k < 8 → o.r = (k : Int) → o.n ≤ (mostP L).nth k) ?_ (fun L p ih => ?_) L
  · intro o ho; cases ho
  · intro o ho k hk hr
    rw [mostP_snoc, nth_with _ _ _ _ hk]
    rcases List.mem_append.1 ho with ho | ho
    · have := ih o ho k hk hr
      split
      · have := mx_left ((mostP L).nth k) p.n; omega
      · exact this
    · simp at ho
      subst ho
      rw [if_pos hr]
      exact mx_right _ _
theorem nth_most (v : V8) (k : Nat) (hk : k < 8) : v.nth k ≤ v.most := by
  have := most_ge v
  rcases nat8 hk with rfl | rfl | rfl | rfl | rfl | rfl | rfl | rfl
  · exact this.1
  · exact this.2.1
  · exact this.2.2.1
  · exact this.2.2.2.1
  · exact this.2.2.2.2.1
  · exact this.2.2.2.2.2.1
  · exact this.2.2.2.2.2.2.1
  · exact this.2.2.2.2.2.2.2
theorem most_nonneg (v : V8) (h : ∀ k : Nat, k < 8 → 0 ≤ v.nth k) : 0 ≤ v.most := by
  have := nth_most v 0 (by decide)
  have := h 0 (by decide)
  omega
/-- the operation that leans on all of them -/
def newO (n r : Int) (v : V8) : OpG := ⟨n, r, v, 1, 0, 0, 2, 97, 0, 0, nul, nul, nul, 0, 0, false, 0, 0, false⟩
theorem newO_right (L : List OpG) (r : Int) (h0 : 0 ≤ r) (h8 : r < 8) (hs : (mostP L).most < 1048576) : (newO ((mostP L).most + 1) r (mostP L)).rightP = true := by
  have hg := mostP_ge L
  have hm := nth_most (mostP L)
  have hn := most_nonneg _ hg
  have hp : (newO ((mostP L).most + 1) r (mostP L)).pre = true := by
    rw [pre_iff]
    refine ⟨right_yes ⟨by show 1 ≤ (mostP L).most + 1; omega, by show (mostP L).most + 1 ≤ 1048576; omega, h0, h8⟩, ⟨hg 0 (by decide), hg 1 (by decide), hg 2 (by decide), hg 3 (by decide), hg 4 (by decide), hg 5 (by decide), hg 6 (by decide), hg 7 (by decide)⟩, ?_⟩
    have m := most_ge (mostP L)
    show (mostP L).x0 < (mostP L).most + 1 ∧ (mostP L).x1 < (mostP L).most + 1 ∧ (mostP L).x2 < (mostP L).most + 1 ∧ (mostP L).x3 < (mostP L).most + 1 ∧ (mostP L).x4 < (mostP L).most + 1 ∧ (mostP L).x5 < (mostP L).most + 1 ∧ (mostP L).x6 < (mostP L).most + 1 ∧ (mostP L).x7 < (mostP L).most + 1
    omega
  unfold OpG.rightP
  rw [hp, Bool.true_and, if_pos (show (newO ((mostP L).most + 1) r (mostP L)).kd = 1 from rfl), Bool.and_eq_true, OpG.beq_iff]
  refine ⟨?_, rfl⟩
  simp [OpG.ok1, newO, noneB, OpG.chB]
theorem newO_closed (L : List OpG) (r : Int) (h0 : 0 ≤ r) (h8 : r < 8) (hs : (mostP L).most < 1048576) (hc : ClosedP L) : ClosedP (L ++ [newO ((mostP L).most + 1) r (mostP L)]) := by
  have hi : ids (L ++ [newO ((mostP L).most + 1) r (mostP L)]) = ids L ++ [((mostP L).most + 1, r)] := by simp [ids, OpG.id, newO]
  refine ⟨fun o ho => ?_, ?_, fun o ho k hk h => ?_⟩
  · rcases List.mem_append.1 ho with ho | ho
    · exact hc.1 o ho
    · simp at ho; subst ho; exact newO_right L r h0 h8 hs
  · rw [hi, List.nodup_append]
    refine ⟨hc.2.1, by simp, fun a ha b hb e => ?_⟩
    simp at hb
    subst hb
    obtain ⟨p, hp, e2⟩ := List.mem_map.1 ha
    rw [e] at e2
    have e3 : p.n = (mostP L).most + 1 ∧ p.r = r := by simpa [OpG.id] using e2
    have := mostP_has L p hp r.toNat (by omega) (by omega)
    have := nth_most (mostP L) r.toNat (by omega)
    omega
  · rw [hi, List.mem_append]
    rcases List.mem_append.1 ho with ho | ho
    · exact .inl (hc.2.2 o ho k hk h)
    · simp at ho
      subst ho
      rcases mostP_mem L k hk with e | e
      · have h' : 0 < (mostP L).nth k := h
        omega
      · exact .inl e
theorem newO_most (L : List OpG) (n r : Int) (v : V8) : mostP (L ++ [newO n r v]) = (mostP L).with n r := mostP_snoc _ _
theorem newO_fine (n r : Int) (v : V8) : (newO n r v).fine := ⟨Nat.zero_le _, Nat.zero_le _, Nat.zero_le _⟩
end Go.Proofs.YtgmhjgknfeihiaaDoor
