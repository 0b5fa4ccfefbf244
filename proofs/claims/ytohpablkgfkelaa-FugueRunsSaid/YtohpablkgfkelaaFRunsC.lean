/- RUNS ARE NOT MIXED: both runs can be put in; what stands where behind that: plain. -/
import Derived.Test.YtohpablkgfkelaaFTyped
namespace Go.Proofs.Ytohpablkgfkelaa
open Go.RowKit Go.Joins
set_option linter.unusedSimpArgs false
set_option linter.unusedVariables false

theorem rid_right {r : Int} (hr : r = 6 ∨ r = 7) {i : Nat} (hi : i < 10) : rightB (rid r i).1 (rid r i).2 = true := by
  unfold rightB rid
  refine decide_eq_true ?_
  simp
  omega
theorem argOk_run {A B : List St} {p : St} {s : Int} (ha : At A B p s) (hz : (0, 0) ∉ A ++ B) {b : Bool} {r : Int} (hr : r = 6 ∨ r = 7) {i : Nat} (hi : i < 10) : ArgOk (rid r i) (runA p s b r i).par (runA p s b r i).side := by
  refine ⟨rid_right hr hi, ?_, ?_⟩
  · cases i with
    | zero =>
      show s = 1 ∨ s = 2
      rcases ha.sp with ⟨e, _⟩ | ⟨e, _⟩
      · exact .inr e
      · exact e
    | succ i => cases b <;> simp [runA, sideB]
  · cases i with
    | zero =>
      show ¬ (p = (0, 0) ∧ s = 1)
      rintro ⟨h1, h2⟩
      obtain ⟨B', hB⟩ := ha.a1 h2
      rcases ha.sp with ⟨e, _⟩ | ⟨_, e⟩
      · omega
      · exact hz (h1 ▸ e)
    | succ i => exact fun h => rid_ne0 r i h.1
theorem Mg.okA {S : Tx} {A B : List St} {p : St} {s : Int} {ba bb : Bool} {i j : Nat} {T : Tx} (h : Mg S A B p s ba bb i j T) (ha : At A B p s) (hz : (0, 0) ∉ A ++ B) (hi : i < 10) (hf : rid 6 i ∉ A ++ B) : InsOk T (rid 6 i) (runA p s ba 6 i).par (runA p s ba 6 i).side := by
  refine ⟨?_, fun hm => ?_, ?_⟩
  · exact argOk_run ha hz (.inl rfl) hi
  · rw [h.L] at hm
    simp only [List.mem_append] at hm hf
    rcases hm with hm | hm | hm | hm
    · exact hf (.inl hm)
    · obtain ⟨k, hk, e⟩ := runS_mem.1 hm
      have := rid_inj e
      omega
    · obtain ⟨k, hk, e⟩ := runS_mem.1 hm
      exact rid_67 _ _ e
    · exact hf (.inr hm)
  · cases i with
    | zero =>
      show p = (0, 0) ∨ p ∈ T.L
      rcases ha.sp with ⟨_, e⟩ | ⟨_, e⟩
      · exact .inl e
      · right
        rw [h.L]
        rcases List.mem_append.1 e with e | e <;> simp [e]
    | succ i =>
      right
      show rid 6 i ∈ T.L
      have hm : rid 6 i ∈ runS ba 6 (i + 1) := runS_mem.2 ⟨i, by omega, rfl⟩
      rw [h.L]
      simp [hm]
theorem Mg.okB {S : Tx} {A B : List St} {p : St} {s : Int} {ba bb : Bool} {i j : Nat} {T : Tx} (h : Mg S A B p s ba bb i j T) (ha : At A B p s) (hz : (0, 0) ∉ A ++ B) (hi : j < 10) (hf : rid 7 j ∉ A ++ B) : InsOk T (rid 7 j) (runA p s bb 7 j).par (runA p s bb 7 j).side := by
  refine ⟨?_, fun hm => ?_, ?_⟩
  · exact argOk_run ha hz (.inr rfl) hi
  · rw [h.L] at hm
    simp only [List.mem_append] at hm hf
    rcases hm with hm | hm | hm | hm
    · exact hf (.inl hm)
    · obtain ⟨k, hk, e⟩ := runS_mem.1 hm
      exact rid_67 _ _ e.symm
    · obtain ⟨k, hk, e⟩ := runS_mem.1 hm
      have := rid_inj e
      omega
    · exact hf (.inr hm)
  · cases j with
    | zero =>
      show p = (0, 0) ∨ p ∈ T.L
      rcases ha.sp with ⟨_, e⟩ | ⟨_, e⟩
      · exact .inl e
      · right
        rw [h.L]
        rcases List.mem_append.1 e with e | e <;> simp [e]
    | succ j =>
      right
      show rid 7 j ∈ T.L
      have hm : rid 7 j ∈ runS bb 7 (j + 1) := runS_mem.2 ⟨j, by omega, rfl⟩
      rw [h.L]
      simp [hm]
theorem runS_get (b : Bool) (r : Int) : ∀ (m i : Nat), i < m → (runS b r m)[i]? = some (if b then rid r (m - 1 - i) else rid r i)
  | 0, i, h => by omega
  | m + 1, i, h => by
    have ih := runS_get b r m
    cases b with
    | false =>
      have e : runS false r (m + 1) = runS false r m ++ [rid r m] := rfl
      rw [e]
      by_cases him : i < m
      · rw [List.getElem?_append_left (by rw [runS_length]; exact him)]
        exact ih i him
      · obtain rfl : i = m := by omega
        exact get_behind _ _ _ _ (runS_length _ _ _)
    | true =>
      have e : runS true r (m + 1) = rid r m :: runS true r m := rfl
      rw [e]
      cases i with
      | zero => simp
      | succ i =>
        rw [List.getElem?_cons_succ, ih i (by omega)]
        simp only [if_true]
        rw [show m + 1 - 1 - (i + 1) = m - 1 - i by omega]
/-- who stands at an index behind both -/
theorem Mg.stand {S : Tx} {A B : List St} {p : St} {s : Int} {ba bb : Bool} {i j : Nat} {T : Tx} (h : Mg S A B p s ba bb i j T) (hS : S.Ok) (hL : S.L = A ++ B) {n q : Nat} (hc : cnt S.gone A = n) {x : St} (hx : (runS ba 6 i ++ runS bb 7 j)[q]? = some x) : nthV T.L T.gone ((n + q : Nat) : Int) = x ∧ n + q < cnt T.gone T.L := by
  have hn := h.ok.nodup
  rw [h.L] at hn
  obtain ⟨n1, n2, n3⟩ := List.nodup_append.1 hn
  rw [← List.append_assoc] at n2 n3
  obtain ⟨m1, m2, m3⟩ := List.nodup_append.1 n2
  have hall : ∀ y ∈ runS ba 6 i ++ runS bb 7 j, S.gone y = false := fun y hy => by
    cases hg : S.gone y
    · rfl
    · exfalso
      have hm := hS.gone y hg
      rw [hL] at hm
      rcases List.mem_append.1 hm with e | e
      · exact n3 y e y (List.mem_append.2 (.inl hy)) rfl
      · exact m3 y hy y e rfl
  have hsh : shownL T.gone T.L = shownL S.gone A ++ ((runS ba 6 i ++ runS bb 7 j) ++ shownL S.gone B) := by
    rw [h.gone, h.L, shownL_append, ← List.append_assoc, shownL_append, shownL_all hall, ← List.append_assoc, List.append_assoc]
  refine nth_get ?_
  have hlen : (shownL S.gone A).length = n := by rw [← cnt_shown, hc]
  have hq := (List.getElem?_eq_some_iff.1 hx).1
  rw [hsh, List.getElem?_append_right (by omega), hlen, List.getElem?_append_left (by omega), show n + q - n = q by omega]
  exact hx
end Go.Proofs.Ytohpablkgfkelaa
