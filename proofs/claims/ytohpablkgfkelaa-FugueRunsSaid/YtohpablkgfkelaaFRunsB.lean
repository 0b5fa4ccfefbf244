/- RUNS ARE NOT MIXED: where Between says in a text that has a run; what stands where behind both: plain. -/
import Derived.Test.YtohpablkgfkelaaFRunsP
namespace Go.Proofs.Ytohpablkgfkelaa
open Go.RowKit Go.Joins
set_option linter.unusedSimpArgs false
set_option linter.unusedVariables false

theorem shownL_append (hid : St → Bool) (A B : List St) : shownL hid (A ++ B) = shownL hid A ++ shownL hid B := by simp [shownL]
theorem shownL_all {hid : St → Bool} {R : List St} (h : ∀ x ∈ R, hid x = false) : shownL hid R = R := by
  unfold shownL
  exact List.filter_eq_self.2 (fun x hx => by simp [h x hx])
theorem nth_get {L : List St} {hid : St → Bool} {n : Nat} {x : St} (h : (shownL hid L)[n]? = some x) : nthV L hid n = x ∧ n < cnt hid L := by
  have hl := (List.getElem?_eq_some_iff.1 h).1
  rw [← cnt_shown] at hl
  refine ⟨?_, hl⟩
  unfold nthV
  rw [if_pos (by omega), List.getD_eq_getElem?_getD, Int.toNat_natCast, h, Option.getD_some]
theorem runS_last (r : Int) (k : Nat) : (runS false r (k + 1))[k]? = some (rid r k) := by
  have e : runS false r (k + 1) = runS false r k ++ [rid r k] := rfl
  rw [e]
  exact get_behind _ _ _ _ (runS_length _ _ _)
/-- a text that has a run at a place, one more than k of it -/
structure Run1 (S T : Tx) (A B : List St) (p : St) (s : Int) (b : Bool) (r : Int) (k : Nat) : Prop where
  ok : T.Ok
  L : T.L = A ++ (runS b r (k + 1) ++ B)
  gone : T.gone = S.gone
  leaf : ∀ u, T.K (rid r k) u = []
  kp : T.K p s ≠ []
  up : ∀ q u, S.K q u ≠ [] → T.K q u ≠ []
theorem Run1.shown {S T : Tx} {A B : List St} {p : St} {s : Int} {b : Bool} {r : Int} {k : Nat} (h : Run1 S T A B p s b r k) (hS : S.Ok) (hL : S.L = A ++ B) : shownL T.gone T.L = shownL S.gone A ++ (runS b r (k + 1) ++ shownL S.gone B) := by
  have hn := h.ok.nodup
  rw [h.L] at hn
  obtain ⟨n1, n2, n3⟩ := List.nodup_append.1 hn
  obtain ⟨m1, m2, m3⟩ := List.nodup_append.1 n2
  rw [h.gone, h.L, shownL_append, shownL_append, shownL_all (R := runS b r (k + 1)) (fun x hx => ?_)]
  cases hg : S.gone x
  · rfl
  · exfalso
    have hm := hS.gone x hg
    rw [hL] at hm
    rcases List.mem_append.1 hm with e | e
    · exact n3 x e x (by simp [hx]) rfl
    · exact m3 x hx x e rfl
theorem Run1.bet {S T : Tx} {A B : List St} {b : Bool} {r : Int} {k : Nat} {n : Nat} (hS : S.Ok) (ho : ¬ betOut S n) (h : Run1 S T A B (betP S n) (betS S n) b r k) (hL : S.L = A ++ B) (hc : cnt S.gone A = n) (hA : (0 < (n : Int) → ∃ A', A = A' ++ [betA S n]) ∧ ((n : Int) = 0 → A = []))
    (h1 : betS S n = 1 → S.K (betA S n) 2 ≠ []) (h2 : betS S n = 2 → betP S n = betA S n) (hs : betS S n = 1 ∨ betS S n = 2) (q : Int) (hq : q = if b then (n : Int) else n + (k + 1)) :
    betP T q = rid r k ∧ betS T q = sideB b ∧ betE T q = 0 := by
  have hsh := h.shown hS hL
  have hlen : (shownL S.gone A).length = n := by rw [← cnt_shown, hc]
  have hcT : cnt T.gone T.L = n + (k + 1 + cnt S.gone B) := by
    rw [cnt_shown, hsh, List.length_append, List.length_append, runS_length, hlen, cnt_shown]
  have hka : T.K (betA S n) 2 ≠ [] := by
    rcases hs with e | e
    · exact h.up _ _ (h1 e)
    · have := h.kp
      rw [e, h2 e] at this
      exact this
  unfold betP betS betE
  cases b with
  | false =>
    have hq' : q = ((n + (k + 1) : Nat) : Int) := by rw [hq]; simp
    subst hq'
    have hout : ¬ betOut T ((n + (k + 1) : Nat) : Int) := by unfold betOut; rw [hcT]; omega
    rw [if_neg hout, if_neg hout, if_neg hout]
    have hget : (shownL T.gone T.L)[n + k]? = some (rid r k) := by
      rw [hsh, List.getElem?_append_right (by omega), hlen, List.getElem?_append_left (by rw [runS_length]; omega), show n + k - n = k by omega]
      exact runS_last r k
    have ha : betA T ((n + (k + 1) : Nat) : Int) = rid r k := by
      unfold betA
      rw [if_pos (by omega), show ((n + (k + 1) : Nat) : Int) - 1 = ((n + k : Nat) : Int) by omega]
      exact (nth_get hget).1
    rw [ha, if_pos (h.leaf 2), if_pos (h.leaf 2)]
    exact ⟨rfl, rfl, rfl⟩
  | true =>
    have hq' : q = (n : Int) := by rw [hq]; rfl
    subst hq'
    have hout : ¬ betOut T (n : Int) := by unfold betOut; rw [hcT]; omega
    rw [if_neg hout, if_neg hout, if_neg hout]
    have hhead : runS true r (k + 1) = rid r k :: runS true r k := rfl
    have hTL : T.L = A ++ rid r k :: (runS true r k ++ B) := by rw [h.L, hhead]; simp
    have hat : atV T.L (A.length : Int) = rid r k := by
      have hg : T.L[A.length]? = some (rid r k) := by rw [hTL]; exact get_behind _ _ _ _ rfl
      have hlt := (List.getElem?_eq_some_iff.1 hg).1
      unfold atV
      rw [if_pos (by omega), List.getD_eq_getElem?_getD, Int.toNat_natCast, hg, Option.getD_some]
    have hab : betA T n = betA S n ∧ betN T n = A.length := by
      rcases Nat.eq_zero_or_pos n with e | e
      · subst e
        rw [hA.2 rfl]
        exact ⟨rfl, rfl⟩
      · obtain ⟨A', hA'⟩ := hA.1 (by omega)
        obtain ⟨m, rfl⟩ : ∃ m, n = m + 1 := ⟨n - 1, by omega⟩
        have hx : ∃ x, (shownL S.gone A)[m]? = some x := ⟨_, List.getElem?_eq_getElem (by omega)⟩
        obtain ⟨x, hx⟩ := hx
        have e1 : (shownL T.gone T.L)[m]? = some x := by rw [hsh, List.getElem?_append_left (by omega)]; exact hx
        have e2 : (shownL S.gone S.L)[m]? = some x := by rw [hL, shownL_append, List.getElem?_append_left (by omega)]; exact hx
        have a1 : betA T ((m + 1 : Nat) : Int) = x := by
          unfold betA
          rw [if_pos (by omega), show ((m + 1 : Nat) : Int) - 1 = (m : Int) by omega]
          exact (nth_get e1).1
        have a2 : betA S ((m + 1 : Nat) : Int) = x := by
          unfold betA
          rw [if_pos (by omega), show ((m + 1 : Nat) : Int) - 1 = (m : Int) by omega]
          exact (nth_get e2).1
        refine ⟨a1.trans a2.symm, ?_⟩
        unfold betN
        rw [if_pos (by omega), a1, ← a2]
        have hTL2 : T.L = A' ++ betA S ((m + 1 : Nat) : Int) :: (rid r k :: (runS true r k ++ B)) := hTL.trans (by
          have e5 := congrArg (fun M => M ++ rid r k :: (runS true r k ++ B)) hA'
          simpa using e5)
        have hAl : A.length = A'.length + 1 := by have := congrArg List.length hA'; simpa using this
        rw [place_mid hTL2 h.ok.nodup, hAl]
        rfl
    rw [hab.1, if_neg hka, if_neg hka, hab.2, hat]
    exact ⟨rfl, rfl, rfl⟩
end Go.Proofs.Ytohpablkgfkelaa
