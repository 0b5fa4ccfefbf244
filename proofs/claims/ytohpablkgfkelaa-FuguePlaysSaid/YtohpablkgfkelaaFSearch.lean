/- slices.BinarySearchFunc AT STAMPS: where a new one stands among its like. -/
import Derived.Test.YtohpablkgfkelaaFText
namespace Go.Proofs.Ytohpablkgfkelaa
open Go.RowKit Go.Joins
set_option linter.unusedSimpArgs false
set_option linter.unusedVariables false

/-- how far the search is -/
structure Half (ks : List St) (k : St) (i j : Nat) : Prop where
  le : i ≤ j
  jl : j ≤ ks.length
  lo : ∀ m y, m < i → ks[m]? = some y → ltS y k
  hi : ∀ m y, j ≤ m → ks[m]? = some y → ltS k y
theorem Half.at {ks : List St} {k : St} {i : Nat} (h : Half ks k i i) : IsAt ks k i := by
  refine ⟨h.jl, fun y hy => ?_, fun y hy => ?_⟩
  · obtain ⟨m, hm⟩ := List.mem_iff_getElem?.1 hy
    rw [List.getElem?_take] at hm
    split at hm
    · exact h.lo m y (by assumption) hm
    · cases hm
  · obtain ⟨m, hm⟩ := List.mem_iff_getElem?.1 hy
    rw [List.getElem?_drop] at hm
    exact h.hi _ y (by omega) hm
theorem sorted_lt {ks : List St} (hs : ks.Pairwise ltS) {m q : Nat} {x y : St} (h : m < q) (hx : ks[m]? = some x) (hy : ks[q]? = some y) : ltS x y := by
  obtain ⟨hm, rfl⟩ := List.getElem?_eq_some_iff.1 hx
  obtain ⟨hq, rfl⟩ := List.getElem?_eq_some_iff.1 hy
  exact List.pairwise_iff_getElem.1 hs m q hm hq h
theorem Half.up {ks : List St} {k : St} {i j m : Nat} (h : Half ks k i j) (hs : ks.Pairwise ltS) (hm : m < j) {y : St} (hy : ks[m]? = some y) (hl : ltS y k) : Half ks k (m + 1) j := by
  refine ⟨hm, h.jl, fun q z hq hz => ?_, h.hi⟩
  rcases Nat.lt_or_ge q m with e | e
  · exact ltS_trans (sorted_lt hs e hz hy) hl
  · obtain rfl : q = m := by omega
    rw [hy] at hz
    obtain rfl := Option.some.inj hz
    exact hl
theorem Half.down {ks : List St} {k : St} {i j m : Nat} (h : Half ks k i j) (hs : ks.Pairwise ltS) (hi : i ≤ m) (hm : m < j) {y : St} (hy : ks[m]? = some y) (hl : ltS k y) : Half ks k i m := by
  refine ⟨hi, by have := h.jl; omega, h.lo, fun q z hq hz => ?_⟩
  rcases Nat.eq_or_lt_of_le hq with e | e
  · subst e
    rw [hy] at hz
    obtain rfl := Option.some.inj hz
    exact hl
  · exact ltS_trans hl (sorted_lt hs e hy hz)
/-- where -/
def posS (ks : List St) (k : St) : Nat := (ks.filter fun y => decide (ltS y k)).length
theorem IsAt.pos {ks : List St} {k : St} {i : Nat} (h : IsAt ks k i) : i = posS ks k := by
  unfold posS
  conv => rhs; rw [← List.take_append_drop i ks, List.filter_append, List.length_append]
  rw [List.filter_eq_self.2 (fun y hy => decide_eq_true (h.2.1 y hy)), List.filter_eq_nil_iff.2 (fun y hy => by simpa using ltS_asymm (h.2.2 y hy))]
  have := h.1
  simp
  omega
theorem posS_le (ks : List St) (k : St) : posS ks k ≤ ks.length := List.length_filter_le _ _
theorem posS_at {k : St} : ∀ {ks : List St}, ks.Pairwise ltS → k ∉ ks → IsAt ks k (posS ks k)
  | [], _, _ => ⟨Nat.zero_le _, fun y h => by simp at h, fun y h => by simp at h⟩
  | x :: ks, hs, hk => by
    obtain ⟨h1, h2⟩ := List.pairwise_cons.1 hs
    simp only [List.mem_cons, not_or] at hk
    by_cases hx : ltS x k
    · have ih := posS_at h2 hk.2
      have e : posS (x :: ks) k = posS ks k + 1 := by unfold posS; rw [List.filter_cons_of_pos (by simpa using hx)]; rfl
      rw [e]
      refine ⟨by have := ih.1; simp; omega, fun y hy => ?_, fun y hy => ih.2.2 y (by simpa using hy)⟩
      simp at hy
      rcases hy with rfl | hy
      · exact hx
      · exact ih.2.1 y hy
    · have hkx := ltS_total hx (fun e => hk.1 e.symm)
      have e : posS (x :: ks) k = 0 := by
        unfold posS
        rw [List.filter_eq_nil_iff.2 (fun y hy => ?_)]
        · rfl
        · rcases List.mem_cons.1 hy with rfl | hy
          · simpa using hx
          · simpa using ltS_asymm (ltS_trans hkx (h1 y hy))
      rw [e]
      refine ⟨Nat.zero_le _, fun y hy => by simp at hy, fun y hy => ?_⟩
      rcases List.mem_cons.1 (by simpa using hy) with rfl | hy
      · exact hkx
      · exact ltS_trans hkx (h1 y hy)
def SearchP (ks : List St) (k : St) (w : World) (e : Ending) (w' : World) : Prop := e = .returned (.tuple #[.int .i64 (posS ks k), .bool false]) ∧ Below w.heap.size w w'
theorem own_form {w : World} {v : Value} {ks : List St} (h : w.ownsRow 0 30 2 v ks.length (stL ks)) : (∃ ao cap, v = .slice ao ks.length cap ∧ ∀ k x, ks[k]? = some x → ∃ A, ao = some ⟨A, 0, none⟩ ∧ w.cell? ⟨A, k * 2, none⟩ = some (.int .i64 x.1) ∧ w.cell? ⟨A, k * 2 + 1, none⟩ = some (.int .i64 x.2)) ∧ ks.length ≤ maxLen := by
  rcases h.2 with ⟨rfl, h0⟩ | ⟨A, cap, cur, he, _, hb, hnc, hc, hs, ht⟩
  · refine ⟨⟨none, 0, by rw [h0], fun k x hk => ?_⟩, by rw [h0]; exact Nat.zero_le _⟩
    have := (List.getElem?_eq_some_iff.1 hk).1
    omega
  · refine ⟨⟨some ⟨A, 0, none⟩, cap, he, fun k x hk => ⟨A, rfl, ?_⟩⟩, Nat.le_trans hnc hc⟩
    have hkl := (List.getElem?_eq_some_iff.1 hk).1
    obtain ⟨h1, h2⟩ := stL_get ks k x hk
    rw [← ht, List.getElem?_take, if_pos (by omega), Array.getElem?_toList] at h1 h2
    rw [blk_cell hb, blk_cell hb]
    exact ⟨h1, h2⟩
set_option maxHeartbeats 2000000 in
set_option maxRecDepth 20000 in
theorem search_any (w : World) (v : Value) (ks : List St) (h : w.ownsRow 0 30 2 v ks.length (stL ks)) (hl : ks.length < 4294967296) (hs : ks.Pairwise ltS) (k : St) (hk : k ∉ ks) :
    Calls Try.prog 34 #[v, encS k, .func (.func 35) #[] #[]] w (SearchP ks k w) := by
  obtain ⟨⟨ao, cap, rfl, hc⟩, -⟩ := own_form h
  have HC := Lib.hid hc
  have HS := Lib.hid hs
  have HK := Lib.hid hk
  clear h hc hs hk
  go_enter Try.func34, Try.ntmps34
  go_wp2
  go_loopw [9, 10] (fun i j wr => ∃ a b : Nat, i = .int .i64 a ∧ j = .int .i64 b ∧ Half ks k a b ∧ KB w k w.heap.size wr) (fun i j _ => (intOf j).toNat - (intOf i).toNat)
  case atStart => exact ⟨0, ks.length, rfl, rfl, ⟨Nat.zero_le _, Nat.le_refl _, fun m y h => by omega, fun m y h hy => by have := (List.getElem?_eq_some_iff.1 hy).1; omega⟩, KB.new w k⟩
  case round =>
    obtain ⟨a, b, rfl, rfl, hh, hkb⟩ := hrel
    have hle := hh.le
    have hjl := hh.jl
    have HH := Lib.hid hh
    have HX := Lib.hid hkb
    clear hh hkb
    by_cases hab : a < b
    · go_upto_region 5 with fail
      obtain ⟨m, hm⟩ : ∃ m : Nat, ((a : Int) + (b : Int)) / 2 = (m : Int) := ⟨(a + b) / 2, by omega⟩
      rw [hm]
      have hma : a ≤ m := by omega
      have hmb : m < b := by omega
      clear hm
      obtain ⟨y, hy⟩ : ∃ y, ks[m]? = some y := ⟨_, List.getElem?_eq_getElem (by omega)⟩
      obtain ⟨A, rfl, i0, i1⟩ := HC.out m y hy
      have c0 : wr.drew.cell? ⟨A, m * 2, none⟩ = some (.int .i64 y.1) := (HX.out.drew.b.cell (World.block_lt_of_cell? _ _ i0)).trans i0
      have c1 : wr.drew.cell? ⟨A, m * 2 + 1, none⟩ = some (.int .i64 y.2) := (HX.out.drew.b.cell (World.block_lt_of_cell? _ _ i1)).trans i1
      have k0 := HX.out.drew.c0
      have k1 := HX.out.drew.c1
      have HP := Lib.hid (compare_any y.1 y.2 k.1 k.2 wr.drew)
      have HY := Lib.hid hy
      have b0 : (0 : Int) ≤ (m : Int) := by omega
      have b1 : (m : Int) < (ks.length : Int) := by omega
      clear i0 i1 hy
      by_cases hlt : ltS y k
      · have d1 : decide (cmpS y.1 y.2 k.1 k.2 < 0) = true := decide_eq_true hlt
        have HL := Lib.hid hlt
        clear hlt
        go_region_with (go_at_call 35; (with_reducible refine HP.out.mono ?_); rintro e w' ⟨rfl, hb⟩; have HB := Lib.hid hb; clear hb)
        all_goals
          go_wp2
          go_roundw
          case rel => exact ⟨m + 1, b, by go_num, rfl, HH.out.up HS.out hmb HY.out HL.out, HX.out.drew.later HB.out⟩
          case measure => simp [intOf]; omega
      · have d1 : decide (cmpS y.1 y.2 k.1 k.2 < 0) = false := decide_eq_false hlt
        have HL := Lib.hid (ltS_total hlt (fun e => HK.out (e ▸ List.mem_of_getElem? HY.out)))
        clear hlt
        go_region_with (go_at_call 35; (with_reducible refine HP.out.mono ?_); rintro e w' ⟨rfl, hb⟩; have HB := Lib.hid hb; clear hb)
        all_goals
          go_wp2
          go_roundw
          case rel => exact ⟨a, m, rfl, rfl, HH.out.down HS.out hma hmb HY.out HL.out, HX.out.drew.later HB.out⟩
          case measure => simp [intOf]; omega
    · obtain rfl : a = b := by omega
      go_upto_region 8 with fail
      by_cases hin : a < ks.length
      · obtain ⟨y, hy⟩ : ∃ y, ks[a]? = some y := ⟨_, List.getElem?_eq_getElem hin⟩
        obtain ⟨A, rfl, i0, i1⟩ := HC.out a y hy
        have c0 : ∀ e, (ext wr e).cell? ⟨A, a * 2, none⟩ = some (.int .i64 y.1) := fun e => ((HX.out.later (ext_below wr e)).b.cell (World.block_lt_of_cell? _ _ i0)).trans i0
        have c1 : ∀ e, (ext wr e).cell? ⟨A, a * 2 + 1, none⟩ = some (.int .i64 y.2) := fun e => ((HX.out.later (ext_below wr e)).b.cell (World.block_lt_of_cell? _ _ i1)).trans i1
        have k0 := fun e => (HX.out.later (ext_below wr e)).c0
        have k1 := fun e => (HX.out.later (ext_below wr e)).c1
        have b0 : (0 : Int) ≤ (a : Int) := by omega
        have b1 : (a : Int) < (ks.length : Int) := by omega
        have d0 : decide ((a : Int) < (ks.length : Int)) = true := decide_eq_true b1
        have d2 : (cmpS y.1 y.2 k.1 k.2 == 0) = false := beq_eq_false_iff_ne.2 (fun e => HK.out ((cmpS_zero y k).1 e ▸ List.mem_of_getElem? hy))
        clear i0 i1 hy
        refine region_ext (by kernel_rfl) (by kernel_rfl) ?_
        repeat (go_big_quiet_step ((go_at_call 35; with_reducible exact calls_ext (compare_any y.1 y.2 k.1 k.2 _))))
        refine wpQuiet_nil ?_
        rintro _ ⟨nq, rfl⟩
        go_wp2
        go_ret2
        exact ⟨congrArg (fun n : Nat => Ending.returned (.tuple #[.int .i64 (n : Int), .bool false])) HH.out.at.pos, (HX.out.later (ext_below _ _)).b⟩
      · have d0 : decide ((a : Int) < (ks.length : Int)) = false := decide_eq_false (by omega)
        go_region
        go_wp2
        go_ret2
        exact ⟨congrArg (fun n : Nat => Ending.returned (.tuple #[.int .i64 (n : Int), .bool false])) HH.out.at.pos, HX.out.drew.b⟩
end Go.Proofs.Ytohpablkgfkelaa
