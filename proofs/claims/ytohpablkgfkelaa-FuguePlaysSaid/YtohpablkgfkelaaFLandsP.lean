/- WHERE A NEW ONE LANDS: plain. -/
import Derived.Test.YtohpablkgfkelaaFWritten
namespace Go.Proofs.Ytohpablkgfkelaa
open Go.RowKit Go.Joins
set_option linter.unusedSimpArgs false
set_option linter.unusedVariables false

theorem mid_inj {A B A2 B2 : List St} {p : St} (h : A ++ p :: B = A2 ++ p :: B2) (hn : (A ++ p :: B).Nodup) : A = A2 ∧ B = B2 := by
  have h1 : p ∉ A := fun hm => (List.nodup_append.1 hn).2.2 p hm p (by simp) rfl
  have h2 : p ∉ A2 := fun hm => by rw [h] at hn; exact (List.nodup_append.1 hn).2.2 p hm p (by simp) rfl
  have e1 : (A ++ p :: B).idxOf p = A.length := by rw [List.idxOf_append, if_neg h1]; simp
  have e2 : (A2 ++ p :: B2).idxOf p = A2.length := by rw [List.idxOf_append, if_neg h2]; simp
  have hl : A.length = A2.length := by rw [← e1, ← e2, h]
  obtain ⟨h3, h4⟩ := List.append_inj h hl
  exact ⟨h3, by simpa using h4⟩
/-- the first of all has nothing on its left -/
theorem Fl.head_left {K : Kd} {xs C : List St} {b : St} (h : Fl K xs (b :: C)) (hn : (b :: C).Nodup) : K b 1 = [] := by
  obtain ⟨U, V, A, B, e, hA, -, -⟩ := h.at (p := b) (by simp)
  have e2 : ([] : List St) ++ b :: C = (U ++ A) ++ b :: (B ++ V) := by simpa using e
  obtain ⟨h1, -⟩ := mid_inj e2 (by simpa using hn)
  have hA0 : A = [] := by
    have := List.append_eq_nil_iff.1 h1.symm
    exact this.2
  subst hA0
  cases hk : K b 1 with
  | nil => rfl
  | cons y ys => rw [hk] at hA; exact absurd rfl hA.ne_nil
theorem cnt_idx {L : List St} {hid : St → Bool} {n : Int} (hL : L.Nodup) (h : 0 ≤ n ∧ n < cnt hid L) : hid (nthV L hid n) = false ∧ (cnt hid (L.take (L.idxOf (nthV L hid n))) : Int) = n := by
  have h2 : n.toNat < (shownL hid L).length := by rw [← cnt_shown]; omega
  have hv : nthV L hid n = (shownL hid L)[n.toNat] := by
    unfold nthV
    rw [if_pos h, List.getD_eq_getElem?_getD, List.getElem?_eq_getElem h2, Option.getD_some]
  generalize nthV L hid n = a at *
  have hm : a ∈ shownL hid L := by rw [hv]; exact List.getElem_mem h2
  have hg : hid a = false := by simpa using (List.mem_filter.1 hm).2
  refine ⟨hg, ?_⟩
  have haL := (List.mem_filter.1 hm).1
  have hi := List.idxOf_lt_length_of_mem haL
  have hsp : L = L.take (L.idxOf a) ++ a :: L.drop (L.idxOf a + 1) := by
    have : a :: L.drop (L.idxOf a + 1) = L.drop (L.idxOf a) := by
      rw [List.drop_eq_getElem_cons hi, List.getElem_idxOf hi]
    rw [this, List.take_append_drop]
  have hs2 : shownL hid L = shownL hid (L.take (L.idxOf a)) ++ a :: shownL hid (L.drop (L.idxOf a + 1)) := by
    conv => lhs; rw [hsp]
    unfold shownL
    rw [List.filter_append, List.filter_cons, if_pos (by simpa using hg)]
  have hsn : (shownL hid L).Nodup := hL.sublist List.filter_sublist
  have hna : a ∉ shownL hid (L.take (L.idxOf a)) := fun hm2 => by
    rw [hs2] at hsn
    exact (List.nodup_append.1 hsn).2.2 a hm2 a (by simp) rfl
  have e1 : (shownL hid L).idxOf a = cnt hid (L.take (L.idxOf a)) := by
    rw [hs2, List.idxOf_append, if_neg hna, cnt_shown]; simp
  have e2 : (shownL hid L).idxOf a = n.toNat := by
    rw [hv]
    exact hsn.idxOf_getElem _ h2
  omega
theorem split_at {L : List St} {a : St} (h : a ∈ L) : L = L.take (L.idxOf a) ++ a :: L.drop (L.idxOf a + 1) := by
  have hi := List.idxOf_lt_length_of_mem h
  have : a :: L.drop (L.idxOf a + 1) = L.drop (L.idxOf a) := by
    rw [List.drop_eq_getElem_cons hi, List.getElem_idxOf hi]
  rw [this, List.take_append_drop]
theorem get_behind {α : Type} (P C : List α) (b : α) (m : Nat) (h : P.length = m) : (P ++ b :: C)[m]? = some b := by
  subst h
  rw [List.getElem?_append_right (Nat.le_refl _)]
  simp
/-- where Between says, there is room -/
theorem bet_in {S : Tx} (hok : S.Ok) {n : Int} (ho : ¬ betOut S n) : (betP S n = (0, 0) ∧ betS S n = 2 ∨ betP S n ∈ S.L ∧ (betS S n = 1 ∨ betS S n = 2)) ∧ ∀ x A B, Put S.K S.L (betP S n) (betS S n) (posS (S.K (betP S n) (betS S n)) x) A B → (cnt S.gone A : Int) = n := by
  obtain ⟨h0, h1⟩ := not_or.1 ho
  unfold betP betS
  rw [if_neg ho, if_neg ho]
  have hleft : ∀ (b : St) (U C : List St) (x : St) (A B : List St), S.L = U ++ b :: C → S.K b 1 = [] → Put S.K S.L b 1 (posS (S.K b 1) x) A B → A = U := fun b U C x A B hL hk hP => by
    rw [hk] at hP
    obtain ⟨z, B', D, hB, hF⟩ := hP.c2 rfl rfl
    obtain ⟨A', hA'⟩ := hF.first_step.1 hk
    obtain rfl : z = b := by simpa using congrArg List.head? hA'
    have hn := hok.nodup
    have e := hP.eq
    rw [hB] at e
    rw [e] at hn
    exact (mid_inj (e.symm.trans hL) hn).1
  by_cases hn : 0 < n
  · have hr : 0 ≤ n - 1 ∧ n - 1 < cnt S.gone S.L := by omega
    have ha : betA S n = nthV S.L S.gone (n - 1) := by unfold betA; rw [if_pos hn]
    have haL : betA S n ∈ S.L := by rw [ha]; exact nthV_mem hr
    obtain ⟨hg, hc⟩ := cnt_idx hok.nodup hr
    rw [← ha] at hg hc
    have hN : betN S n = (S.L.idxOf (betA S n) : Nat) + 1 := by unfold betN placeV; rw [if_pos hn, if_pos haL]
    rw [hN]
    generalize betA S n = a at *
    have hsp := split_at haL
    have hcA : cnt S.gone (S.L.take (S.L.idxOf a) ++ [a]) = cnt S.gone (S.L.take (S.L.idxOf a)) + 1 := by rw [cnt_append, cnt_one, hg]; simp
    have ha0 : a ≠ (0, 0) := fun e => hok.zero (e ▸ haL)
    by_cases hk : S.K a 2 = []
    · rw [if_pos hk, if_pos hk]
      refine ⟨.inr ⟨haL, .inr rfl⟩, fun x A B hP => ?_⟩
      rw [hk] at hP
      obtain ⟨A', hA'⟩ := hP.c4 rfl rfl ha0
      have e : S.L = A' ++ a :: B := by rw [hP.eq, hA']; simp
      have hnd := hok.nodup
      rw [e] at hnd
      have := (mid_inj (e.symm.trans hsp) hnd).1
      rw [hA', this, hcA]
      omega
    · rw [if_neg hk, if_neg hk]
      obtain ⟨U, V, Al, Ar, hL, -, hB, -⟩ := hok.fl.at haL
      have hnd := hok.nodup
      have e : S.L = (U ++ Al) ++ a :: (Ar ++ V) := by rw [hL]; simp
      rw [e] at hnd
      obtain ⟨e1, e2⟩ := mid_inj (e.symm.trans hsp) hnd
      cases hAr : Ar with
      | nil =>
        rw [hAr] at hB
        cases hk2 : S.K a 2 with
        | nil => exact absurd hk2 hk
        | cons y ys => rw [hk2] at hB; exact absurd rfl hB.ne_nil
      | cons b Ar' =>
        subst hAr
        have e3 : S.L = (S.L.take (S.L.idxOf a) ++ [a]) ++ b :: (Ar' ++ V) := by rw [← e1]; rw [e]; simp
        have hlen : (S.L.take (S.L.idxOf a) ++ [a]).length = S.L.idxOf a + 1 := by
          have := List.idxOf_lt_length_of_mem haL
          simp; omega
        have hat : atV S.L ((S.L.idxOf a : Nat) + 1 : Int) = b := by
          have hg2 : S.L[S.L.idxOf a + 1]? = some b := (congrArg (fun M : List St => M[S.L.idxOf a + 1]?) e3).trans (get_behind _ _ _ _ hlen)
          have hlt := (List.getElem?_eq_some_iff.1 hg2).1
          unfold atV
          rw [if_pos (by omega), List.getD_eq_getElem?_getD, show ((S.L.idxOf a : Nat) + 1 : Int).toNat = S.L.idxOf a + 1 by omega, hg2, Option.getD_some]
        rw [hat]
        have hbn : (b :: Ar').Nodup := by
          have h5 := (List.nodup_append.1 hnd).2.1
          have h6 := (List.nodup_cons.1 h5).2
          exact (List.nodup_append.1 h6).1
        have hkb := hB.head_left hbn
        refine ⟨.inr ⟨by rw [e3]; simp, .inl rfl⟩, fun x A B hP => ?_⟩
        rw [hleft b _ _ x A B e3 hkb hP, hcA]
        omega
  · have hn0 : n = 0 := by omega
    subst hn0
    have ha : betA S 0 = (0, 0) := rfl
    have hN : betN S 0 = 0 := rfl
    rw [ha, hN]
    by_cases hk : S.K (0, 0) 2 = []
    · rw [if_pos hk, if_pos hk]
      refine ⟨.inl ⟨rfl, rfl⟩, fun x A B hP => ?_⟩
      rw [hk] at hP
      rw [hP.c3 rfl rfl]
      rfl
    · rw [if_neg hk, if_neg hk]
      have hfl := hok.fl
      have hnd := hok.nodup
      cases hL : S.L with
      | nil =>
        rw [hL] at hfl
        cases hk2 : S.K (0, 0) 2 with
        | nil => exact absurd hk2 hk
        | cons y ys => rw [hk2] at hfl; exact absurd rfl hfl.ne_nil
      | cons b C =>
        rw [hL] at hfl hnd
        have hkb := hfl.head_left hnd
        have hat : atV (b :: C) 0 = b := by unfold atV; simp
        rw [hat]
        refine ⟨.inr ⟨by simp, .inl rfl⟩, fun x A B hP => ?_⟩
        rw [← hL] at hP
        rw [hleft b [] C x A B (by simpa using hL) hkb hP]
        rfl
/-- and where it was put, it is found -/
theorem ins_found {S : Tx} (hok : S.Ok) {x p : St} {s c : Int} {i : Nat} {A B : List St} (hx : x ∉ S.L) (e : S.L = A ++ B) : nthV (S.ins x p s c i A B).L (S.ins x p s c i A B).gone (cnt S.gone A) = x ∧ (cnt S.gone A : Int) < cnt (S.ins x p s c i A B).gone (S.ins x p s c i A B).L ∧ rankV (S.ins x p s c i A B).L (S.ins x p s c i A B).gone x = cnt S.gone A ∧
    (S.ins x p s c i A B).els.filter (fun y => decide (y.k ≠ x)) = S.els := by
  show nthV (A ++ x :: B) S.gone (cnt S.gone A) = x ∧ (cnt S.gone A : Int) < cnt S.gone (A ++ x :: B) ∧ rankV (A ++ x :: B) S.gone x = cnt S.gone A ∧ ((A ++ x :: B).map (S.ins x p s c i A B).el).filter (fun y => decide (y.k ≠ x)) = S.els
  have hg : S.gone x = false := by
    cases hg : S.gone x
    · rfl
    · exact absurd (hok.gone x hg) hx
  have hxA : x ∉ A := fun h => hx (by rw [e]; simp [h])
  have hxB : x ∉ B := fun h => hx (by rw [e]; simp [h])
  have hc : cnt S.gone (A ++ x :: B) = cnt S.gone A + (1 + cnt S.gone B) := by
    rw [cnt_append, show x :: B = [x] ++ B from rfl, cnt_append, cnt_one, hg]; simp
  have hel : ∀ y, y ≠ x → (S.ins x p s c i A B).el y = S.el y := fun y hy => by
    unfold Tx.el Tx.ins setC
    simp [hy]
  refine ⟨?_, by omega, ?_, ?_⟩
  · unfold nthV
    rw [if_pos (by omega)]
    have hs : shownL S.gone (A ++ x :: B) = shownL S.gone A ++ x :: shownL S.gone B := by
      unfold shownL
      rw [List.filter_append, List.filter_cons, if_pos (by simpa using hg)]
    rw [hs, List.getD_eq_getElem?_getD, Int.toNat_natCast, cnt_shown, List.getElem?_append_right (Nat.le_refl _)]
    simp
  · unfold rankV
    rw [if_pos (by simp), List.idxOf_append, if_neg hxA]
    simp
  · rw [List.map_append, List.map_cons, List.filter_append, List.filter_cons, if_neg (by simp [Tx.el])]
    have key : ∀ M : List St, x ∉ M → (M.map (S.ins x p s c i A B).el).filter (fun y => decide (y.k ≠ x)) = M.map S.el := fun M hM => by
      rw [List.filter_eq_self.2 (fun y hy => by
        obtain ⟨z, hz, rfl⟩ := List.mem_map.1 hy
        have hzx : z ≠ x := fun h => hM (h ▸ hz)
        exact decide_eq_true hzx)]
      exact List.map_congr_left (fun y hy => hel y (fun e => hM (e ▸ hy)))
    rw [key A hxA, key B hxB]
    unfold Tx.els
    rw [e, List.map_append]
end Go.Proofs.Ytohpablkgfkelaa
