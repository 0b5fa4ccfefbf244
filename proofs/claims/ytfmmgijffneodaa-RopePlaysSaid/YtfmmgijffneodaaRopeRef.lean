/- THE REFERENCE'S ROPE: a list of items, each shown or not. -/
import Derived.Test.YtfmmgijffneodaaRopeScript
import Derived.Deep.DeepCutAuto
namespace Go.Proofs.Ytfmmgijffneodaa
open Go.RowKit Go.Joins
set_option linter.unusedSimpArgs false
set_option linter.unusedVariables false

def items (L : List Int) (hid : Int → Bool) : List Value := L.flatMap fun k => [.int .i64 k, .bool (!hid k)]
structure RefAt (w : World) (m base : Nat) (v : Value) (L : List Int) (hid : Int → Bool) : Prop where
  top : w.heap[m]? = some (.cells #[v] 42 (0, 0))
  row : w.ownsRow base 61 2 v L.length (items L hid)
theorem items_length (L : List Int) (hid : Int → Bool) : (items L hid).length = L.length * 2 := by
  induction L with
  | nil => rfl
  | cons a L ih => simp [items] at ih ⊢; omega
theorem items_at (L : List Int) (hid : Int → Bool) : ∀ (i : Nat) (hi : i < L.length), (items L hid)[i * 2]? = some (.int .i64 L[i]) ∧ (items L hid)[i * 2 + 1]? = some (.bool (!hid L[i])) := by
  induction L with
  | nil => intro i hi; cases hi
  | cons a L ih =>
    intro i hi
    have e : items (a :: L) hid = .int .i64 a :: .bool (!hid a) :: items L hid := rfl
    rw [e]
    match i with
    | 0 => exact ⟨rfl, rfl⟩
    | i + 1 =>
      have := ih i (by simpa using hi)
      rw [show (i + 1) * 2 = i * 2 + 2 by omega]
      exact this
theorem item_cells {w : World} {base : Nat} {v : Value} {L : List Int} {hid : Int → Bool} (h : w.ownsRow base 61 2 v L.length (items L hid)) :
    ∃ ao cap, v = .slice ao L.length cap ∧ ∀ (i : Nat) (hi : i < L.length), ∃ B, ao = some ⟨B, 0, none⟩ ∧ w.cell? ⟨B, i * 2, none⟩ = some (.int .i64 L[i]) ∧ w.cell? ⟨B, i * 2 + 1, none⟩ = some (.bool (!hid L[i])) := by
  rcases h.2 with ⟨rfl, h0⟩ | ⟨B, cap, cur, he, _, hb, hnc, hc, hs, ht⟩
  · exact ⟨none, 0, by rw [h0], fun k hk => by omega⟩
  · refine ⟨_, cap, he, fun i hi => ⟨B, rfl, ?_⟩⟩
    obtain ⟨h1, h2⟩ := items_at L hid i hi
    rw [blk_cell hb, blk_cell hb, ← Array.getElem?_toList, ← Array.getElem?_toList]
    rw [← ht, List.getElem?_take] at h1 h2
    constructor
    · split at h1
      · exact h1
      · cases h1
    · split at h2
      · exact h2
      · cases h2
def findV (L : List Int) (k : Int) : Int := if k ∈ L then (L.idxOf k : Nat) else -1
set_option maxHeartbeats 2000000 in
theorem rfind_any (w : World) (m base : Nat) (v : Value) (L : List Int) (hid : Int → Bool) (h : RefAt w m base v L hid) (hL : L.length < 4294967296) (k : Int) :
    Calls Try.prog 32 #[ptr m, .int .i64 k] w fun e w' => e = .returned (.int .i64 (findV L k)) ∧ w = w' := by
  obtain ⟨ao, cap, rfl, hc⟩ := item_cells h.row
  have e0 := blk_cell h.top 0
  have f0 := blk_free h.top 0
  have HC := Lib.hid hc
  clear h hc
  go_enter Try.func32, Try.ntmps32
  go_wp2
  go_loop [5] (fun i => ∃ q : Nat, q ≤ L.length ∧ i = .int .i64 q ∧ k ∉ L.take q) (fun i => L.length - (intOf i).toNat)
  case atStart => exact ⟨0, by omega, rfl, by simp⟩
  case round =>
    obtain ⟨q, hq, rfl, hnot⟩ := hrel
    by_cases hql : q < L.length
    · obtain ⟨B, rfl, c1, c2⟩ := HC.out q hql
      have hs := List.take_succ_eq_append_getElem hql
      by_cases hk : L[q] = k
      · have hx : findV L k = q := by
          unfold findV
          rw [if_pos (by rw [← hk]; exact List.getElem_mem hql)]
          congr 1
          have h1 : ¬ L.idxOf k < q := fun hlt => hnot (List.mem_take_iff_getElem.2 ⟨L.idxOf k, by omega, List.getElem_idxOf (by omega)⟩)
          have h2 : ¬ q < L.idxOf k := fun hlt => idx_not hql hlt hk
          omega
        have HX := Lib.hid hx
        clear hx hnot hs
        rw [hk] at c1
        go_wp2
        go_ret
        exact ⟨congrArg (fun z => Ending.returned (.int .i64 z)) HX.out.symm, rfl⟩
      · have HS := Lib.hid hs
        have HN := Lib.hid hnot
        clear hs hnot
        go_wp2
        go_round
        case rel => exact ⟨q + 1, by omega, by go_num, by rw [HS.out]; intro hm; rcases List.mem_append.1 hm with hm | hm; exact HN.out hm; exact hk (List.mem_singleton.1 hm).symm⟩
        case measure => simp [intOf]; omega
    · obtain rfl : q = L.length := by omega
      rw [List.take_length] at hnot
      have hx : findV L k = -1 := by unfold findV; rw [if_neg hnot]
      have HX := Lib.hid hx
      clear hx hnot
      go_wp2
      go_ret
      exact ⟨congrArg (fun z => Ending.returned (.int .i64 z)) HX.out.symm, rfl⟩
set_option maxHeartbeats 2000000 in
theorem rshown_any (w : World) (m base : Nat) (v : Value) (L : List Int) (hid : Int → Bool) (h : RefAt w m base v L hid) (hL : L.length < 4294967296) (n : Nat) (hn : n ≤ L.length) :
    Calls Try.prog 33 #[ptr m, .int .i64 n] w fun e w' => e = .returned (.int .i64 (cnt hid (L.take n))) ∧ w = w' := by
  obtain ⟨ao, cap, rfl, hc⟩ := item_cells h.row
  have e0 := blk_cell h.top 0
  have f0 := blk_free h.top 0
  have HC := Lib.hid hc
  clear h hc
  go_enter Try.func33, Try.ntmps33
  go_wp2
  go_loop [5, 6] (fun c i => ∃ q : Nat, q ≤ n ∧ i = .int .i64 q ∧ c = .int .i64 (cnt hid (L.take q))) (fun _ i => n - (intOf i).toNat)
  case atStart => exact ⟨0, by omega, rfl, rfl⟩
  case round =>
    obtain ⟨q, hq, rfl, rfl⟩ := hrel
    by_cases hql : q < n
    · obtain ⟨B, rfl, c1, c2⟩ := HC.out q (by omega)
      have hs := cnt_take_succ L hid (show q < L.length by omega)
      have hcl : cnt hid (L.take q) ≤ q := Nat.le_trans (cnt_le _ _) (by simp; omega)
      have b1 : (q : Int) < (L.length : Int) := by omega
      cases hh : hid L[q]
      · rw [hh] at c2 hs
        have HS := Lib.hid hs
        clear hs
        go_wp2
        go_round
        case rel => exact ⟨q + 1, hql, by go_num, by rw [HS.out]; go_num⟩
        case measure => simp [intOf]; omega
      · rw [hh] at c2 hs
        have HS := Lib.hid hs
        clear hs
        go_wp2
        go_round
        case rel => exact ⟨q + 1, hql, by go_num, by rw [HS.out]; rfl⟩
        case measure => simp [intOf]; omega
    · obtain rfl : q = n := by omega
      go_wp2
      go_ret
      exact ⟨rfl, rfl⟩
theorem findV_in {L : List Int} {k : Int} (h : k ∈ L) : findV L k = (L.idxOf k : Nat) := by unfold findV; rw [if_pos h]
theorem findV_out {L : List Int} {k : Int} (h : k ∉ L) : findV L k = -1 := by unfold findV; rw [if_neg h]
theorem rplace_any (w : World) (m base : Nat) (v : Value) (L : List Int) (hid : Int → Bool) (h : RefAt w m base v L hid) (hL : L.length < 4294967296) (k : Int) :
    Calls Try.prog 19 #[ptr m, .int .i64 k] w fun e w' => e = .returned (.tuple #[.int .i64 (placeV L k), .int .i64 (itemE L k)]) ∧ w = w' := by
  have H := rfind_any w m base v L hid h hL k
  clear h
  by_cases hk : k ∈ L
  · rw [findV_in hk] at H
    have H := Lib.hid H
    have e1 : placeV L k = (L.idxOf k : Nat) := by unfold placeV; rw [if_pos hk]
    have e2 : itemE L k = 0 := by unfold itemE; rw [if_pos hk]
    rw [e1, e2]
    clear e1 e2 hk
    go_enter Try.func19, Try.ntmps19
    go_wp2_with (with_reducible refine H.out.mono ?_; rintro e w' ⟨rfl, rfl⟩)
    go_ret2
    exact ⟨rfl, rfl⟩
  · rw [findV_out hk] at H
    have H := Lib.hid H
    have e1 : placeV L k = 0 := by unfold placeV; rw [if_neg hk]
    have e2 : itemE L k = 111 := by unfold itemE; rw [if_neg hk]
    rw [e1, e2]
    clear e1 e2 hk
    go_enter Try.func19, Try.ntmps19
    go_wp2_with (with_reducible refine H.out.mono ?_; rintro e w' ⟨rfl, rfl⟩)
    go_ret2
    exact ⟨rfl, rfl⟩
theorem rrank_any (w : World) (m base : Nat) (v : Value) (L : List Int) (hid : Int → Bool) (h : RefAt w m base v L hid) (hL : L.length < 4294967296) (k : Int) :
    Calls Try.prog 20 #[ptr m, .int .i64 k] w fun e w' => e = .returned (.tuple #[.int .i64 (rankV L hid k), .int .i64 (itemE L k)]) ∧ w = w' := by
  have H := rfind_any w m base v L hid h hL k
  by_cases hk : k ∈ L
  · rw [findV_in hk] at H
    have H := Lib.hid H
    have S := Lib.hid (rshown_any w m base v L hid h hL (L.idxOf k) List.idxOf_le_length)
    have e1 : rankV L hid k = (cnt hid (L.take (L.idxOf k)) : Nat) := by unfold rankV; rw [if_pos hk]
    have e2 : itemE L k = 0 := by unfold itemE; rw [if_pos hk]
    rw [e1, e2]
    clear e1 e2 hk h
    go_enter Try.func20, Try.ntmps20
    go_wp2_with (first | (with_reducible refine H.out.mono ?_; rintro e w' ⟨rfl, rfl⟩) | (with_reducible refine S.out.mono ?_; rintro e w' ⟨rfl, rfl⟩))
    go_ret2
    exact ⟨rfl, rfl⟩
  · rw [findV_out hk] at H
    have H := Lib.hid H
    have e1 : rankV L hid k = 0 := by unfold rankV; rw [if_neg hk]
    have e2 : itemE L k = 111 := by unfold itemE; rw [if_neg hk]
    rw [e1, e2]
    clear e1 e2 hk h
    go_enter Try.func20, Try.ntmps20
    go_wp2_with (with_reducible refine H.out.mono ?_; rintro e w' ⟨rfl, rfl⟩)
    go_ret2
    exact ⟨rfl, rfl⟩
theorem rcount_any (w : World) (m base : Nat) (v : Value) (L : List Int) (hid : Int → Bool) (h : RefAt w m base v L hid) (hL : L.length < 4294967296) :
    Calls Try.prog 26 #[ptr m] w fun e w' => e = .returned (.int .i64 (cnt hid L)) ∧ w = w' := by
  have S := rshown_any w m base v L hid h hL L.length (Nat.le_refl _)
  rw [List.take_length] at S
  have S := Lib.hid S
  obtain ⟨ao, cap, rfl, hc⟩ := item_cells h.row
  have e0 := blk_cell h.top 0
  have f0 := blk_free h.top 0
  clear h hc
  go_enter Try.func26, Try.ntmps26
  go_wp2_with (with_reducible refine S.out.mono ?_; rintro e w' ⟨rfl, rfl⟩)
  go_ret
  exact ⟨rfl, rfl⟩
theorem rat_any (w : World) (m base : Nat) (v : Value) (L : List Int) (hid : Int → Bool) (h : RefAt w m base v L hid) (hL : L.length < 4294967296) (i : Int) :
    Calls Try.prog 22 #[ptr m, .int .i64 i] w fun e w' => e = .returned (.tuple #[.int .i64 (atV L i), .int .i64 (atE L i)]) ∧ w = w' := by
  obtain ⟨ao, cap, rfl, hc⟩ := item_cells h.row
  have e0 := blk_cell h.top 0
  have f0 := blk_free h.top 0
  clear h
  by_cases hi : 0 ≤ i ∧ i < L.length
  · obtain ⟨q, rfl⟩ : ∃ q : Nat, i = q := ⟨i.toNat, by omega⟩
    have hq : q < L.length := by omega
    obtain ⟨B, rfl, c1, c2⟩ := hc q hq
    rw [atV_at hq, atE_at hq]
    clear hc hi
    go_enter Try.func22, Try.ntmps22
    go_wp2
    go_ret2
    exact ⟨rfl, rfl⟩
  · have e1 : atV L i = 0 := by unfold atV; rw [if_neg hi]
    have e2 : atE L i = 112 := by unfold atE; rw [if_neg hi]
    rw [e1, e2]
    have hcase : i < 0 ∨ (¬ i < 0 ∧ (L.length : Int) ≤ i) := by omega
    clear e1 e2 hi hc
    rcases hcase with h | ⟨h, h2⟩
    all_goals
      go_enter Try.func22, Try.ntmps22
      go_wp2
      go_ret2
      exact ⟨rfl, rfl⟩
theorem shown_ex (L : List Int) (hid : Int → Bool) (n : Nat) : ∀ q, q ≤ L.length → n < cnt hid (L.take q) → ∃ (j : Nat) (hj : j < L.length), j < q ∧ hid L[j] = false ∧ cnt hid (L.take j) = n := by
  intro q
  induction q with
  | zero => intro _ h; simp [cnt] at h
  | succ q ih =>
    intro hq h
    by_cases hlt : n < cnt hid (L.take q)
    · obtain ⟨j, hj, h1, h2, h3⟩ := ih (by omega) hlt
      exact ⟨j, hj, by omega, h2, h3⟩
    · rw [cnt_take_succ L hid (show q < L.length by omega)] at h
      cases hh : hid L[q]
      · rw [hh] at h
        simp at h
        exact ⟨q, by omega, by omega, hh, by omega⟩
      · rw [hh] at h
        simp at h
        omega
set_option maxHeartbeats 2000000 in
theorem rnth_any (w : World) (m base : Nat) (v : Value) (L : List Int) (hid : Int → Bool) (h : RefAt w m base v L hid) (hL : L.length < 4294967296) (n : Int) :
    Calls Try.prog 24 #[ptr m, .int .i64 n] w fun e w' => e = .returned (.tuple #[.int .i64 (nthV L hid n), .int .i64 (nthE L hid n)]) ∧ w = w' := by
  have HR := Lib.hid h
  obtain ⟨ao, cap, rfl, hc⟩ := item_cells h.row
  have e0 := blk_cell h.top 0
  have f0 := blk_free h.top 0
  have HC := Lib.hid hc
  clear h hc
  go_enter Try.func24, Try.ntmps24
  go_wp2
  go_loop [6] (fun i => ∃ q : Nat, q ≤ L.length ∧ i = .int .i64 q ∧ ∀ (j : Nat) (hj : j < L.length), j < q → hid L[j] = false → (cnt hid (L.take j) : Int) ≠ n) (fun i => L.length - (intOf i).toNat)
  case atStart => exact ⟨0, by omega, rfl, fun j hj h => by omega⟩
  case round =>
    obtain ⟨q, hq, rfl, hnot⟩ := hrel
    by_cases hql : q < L.length
    · obtain ⟨B, rfl, c1, c2⟩ := HC.out q hql
      have S := Lib.hid (rshown_any w m base _ L hid HR.out hL q hq)
      have HN := Lib.hid hnot
      clear hnot
      cases hh : hid L[q]
      · rw [hh, Bool.not_false] at c2
        obtain ⟨n1, n2⟩ := nth_shown L hid hql hh
        have HH := Lib.hid hh
        have N1 := Lib.hid n1
        have N2 := Lib.hid n2
        clear hh n1 n2
        by_cases he : (cnt hid (L.take q) : Int) = n
        · subst he
          go_wp2_with (with_reducible refine S.out.mono ?_; rintro e w' ⟨rfl, rfl⟩)
          go_ret2
          exact ⟨by rw [N1.out, N2.out]; rfl, rfl⟩
        · go_wp2_with (with_reducible refine S.out.mono ?_; rintro e w' ⟨rfl, rfl⟩)
          go_round
          case rel => exact ⟨q + 1, hql, by go_num, fun j hj hjq hs => by
            by_cases hjj : j = q
            · subst hjj; exact he
            · exact HN.out j hj (by omega) hs⟩
          case measure => simp [intOf]; omega
      · rw [hh, Bool.not_true] at c2
        have HH := Lib.hid hh
        clear hh
        go_wp2
        go_round
        case rel => exact ⟨q + 1, hql, by go_num, fun j hj hjq hs => by
            by_cases hjj : j = q
            · subst hjj; rw [HH.out] at hs; cases hs
            · exact HN.out j hj (by omega) hs⟩
        case measure => simp [intOf]; omega
    · obtain rfl : q = L.length := by omega
      have hno : ¬ (0 ≤ n ∧ n < cnt hid L) := fun hc => by
        obtain ⟨t, rfl⟩ : ∃ t : Nat, n = t := ⟨n.toNat, by omega⟩
        obtain ⟨j, hj, h1, h2, h3⟩ := shown_ex L hid t L.length (Nat.le_refl _) (by rw [List.take_length]; omega)
        exact hnot j hj h1 h2 (by rw [h3])
      have e1 : nthV L hid n = 0 := by unfold nthV; rw [if_neg hno]
      have e2 : nthE L hid n = 112 := by unfold nthE; rw [if_neg hno]
      have E1 := Lib.hid e1
      have E2 := Lib.hid e2
      clear e1 e2 hno hnot
      go_wp2
      go_ret2
      exact ⟨by rw [E1.out, E2.out]; rfl, rfl⟩
end Go.Proofs.Ytfmmgijffneodaa
