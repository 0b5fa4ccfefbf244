/- A TEXT IN MEMORY: element, Index, At, place's closure. -/
import Derived.Test.YtohpablkgfkelaaFText
import Derived.Test.YtohpablkgfkelaaStore
namespace Go.Proofs.Ytohpablkgfkelaa
open Go.RowKit Go.Joins
set_option linter.unusedSimpArgs false
set_option linter.unusedVariables false

set_option maxHeartbeats 1000000 in
set_option maxRecDepth 20000 in
theorem element_any (w : World) (t : Nat) (S : Tx) (F : Nat → Prop) (h : Text w t S F) (k : St) (hk : k ∈ S.L) : Calls Try.prog 41 #[ptr t, encS k] w fun e w' => e = .returned (elV S k) ∧ Below w.heap.size w w' := by
  obtain ⟨kb, cb, gb, r, sl, F0, hT, -⟩ := h
  have HT := Lib.hid hT
  have HK := Lib.hid hk
  clear hT hk
  go_enter Try.func41, Try.ntmps41
  go_upto_region 1 with fail
  refine wp_let (fun x => KB w k w.heap.size x ∧ x.heap[w.heap.size + 1]? = some (.cells #[.int .i64 0, .int .i64 0, .int .i64 0, .bool false] 44 (0, 0))) ⟨(KB.new w k).later ((Below.refl _ _).alloc (Nat.le_refl _) _), blk_at _ _ _ (by simp)⟩ (fun x hx => ?_)
  obtain ⟨hx, hel⟩ := hx
  have HX := Lib.hid hx
  have hT2 := HT.out.later hx.drew.b
  have hl := hT2.ch_run HK.out
  have hl2 := hT2.gone_run k
  have e1 := blk_cell hT2.top 1
  have e2 := blk_cell hT2.top 2
  have c0 := hx.drew.c0
  have c1 := hx.drew.c1
  have g0 := blk_cell (blk_drew hel) 0
  have g0' := blk_cell (blk_drew hel) 1
  have g0'' := blk_cell (blk_drew hel) 2
  have g0''' := blk_cell (blk_drew hel) 3
  have g1 := blk_free (blk_drew hel) 0
  have g2 := blk_free (blk_drew hel) 1
  have g3 := blk_free (blk_drew hel) 2
  have g4 := blk_free (blk_drew hel) 3
  have m0 := blk_cell hel 0
  have m1 := blk_cell hel 1
  have m2 := blk_cell hel 2
  have m3 := blk_cell hel 3
  have n0 := blk_free hel 0
  have n1 := blk_free hel 1
  have n2 := blk_free hel 2
  have n3 := blk_free hel 3
  clear hT2 hx
  go_region
  have hz := blk_drew (blk_set (i := 3) (blk_set (i := 2) (blk_set (i := 1) (blk_set (i := 0) hel (.int .i64 k.1)) (.int .i64 k.2)) (.int .i64 (S.ch k))) (.bool (S.gone k)))
  have hb := ((((HX.out.b.setCell (p := ⟨w.heap.size + 1, 0, none⟩) (Nat.le_succ _) (.int .i64 k.1)).setCell (p := ⟨w.heap.size + 1, 1, none⟩) (Nat.le_succ _) (.int .i64 k.2)).setCell (p := ⟨w.heap.size + 1, 2, none⟩) (Nat.le_succ _) (.int .i64 (S.ch k))).setCell (p := ⟨w.heap.size + 1, 3, none⟩) (Nat.le_succ _) (.bool (S.gone k))).drew
  clear g1 g2 g3 g4 m0 m1 m2 m3 n0 n1 n2 n3 c0 c1 e1 e2 hl hl2 hel
  generalize ((((x.setCell ⟨w.heap.size + 1, 0, none⟩ (.int .i64 k.1)).setCell ⟨w.heap.size + 1, 1, none⟩ (.int .i64 k.2)).setCell ⟨w.heap.size + 1, 2, none⟩ (.int .i64 (S.ch k))).setCell ⟨w.heap.size + 1, 3, none⟩ (.bool (S.gone k))).drew = z at *
  have HB := Lib.hid hb
  have z0 := blk_cell hz 0
  have z1 := blk_cell hz 1
  have z2 := blk_cell hz 2
  have z3 := blk_cell hz 3
  clear hb hz
  go_wp2
  refine bodyPost_ret (v := elV S k) (by simp [results, Try.results41, go_sem, z0, z1, z2, z3]) rfl ⟨rfl, ?_⟩
  exact HB.out
set_option maxHeartbeats 1000000 in
set_option maxRecDepth 20000 in
theorem at_clo (w : World) (t s : Nat) (S : Tx) (F : Nat → Prop) (h : Text w t S F) (hs : w.heap[s]? = some (.cells #[ptr t] 24 (0, 0))) (k : St) : Calls Try.prog 55 #[encS k, ptr s] w fun e w' => e = .returned (.int .i64 (placeV S.L k)) ∧ Below w.heap.size w w' := by
  obtain ⟨kb, cb, gb, r, sl, F0, hT, -⟩ := h
  have HT := Lib.hid hT
  have HS := Lib.hid hs
  clear hT hs
  go_enter Try.func55, Try.ntmps55
  go_upto_region 1 with fail
  refine wp_let (KB w k w.heap.size) (KB.new w k) (fun x hx => ?_)
  have HX := Lib.hid hx
  have hT2 := HT.out.later hx.drew.b
  have hpl := place_any _ r S.L S.gone F0 hT2.rope k
  have HP := Lib.hid hpl
  have e1 := blk_cell hT2.top 3
  have e2 := blk_cell ((hx.drew.b.block _ (heap_lt HS.out)).trans HS.out) 0
  have c0 := hx.drew.c0
  have c1 := hx.drew.c1
  clear hT2 hx hpl
  go_region_with (go_at_call 47; (with_reducible refine HP.out.mono ?_); rintro e w' ⟨rfl, hb⟩; have HB := Lib.hid hb; clear hb)
  all_goals
    go_wp2
    go_ret
    exact ⟨rfl, (HX.out.drew.later HB.out).b⟩
set_option maxHeartbeats 1000000 in
set_option maxRecDepth 20000 in
theorem index_text (w : World) (t : Nat) (S : Tx) (F : Nat → Prop) (h : Text w t S F) (k : St) : Calls Try.prog 25 #[ptr t, encS k] w fun e w' => e = .returned (.tuple #[.int .i64 (rankV S.L S.gone k), .int .i64 (if k ∈ S.L then 0 else 121)]) ∧ Below w.heap.size w w' := by
  obtain ⟨kb, cb, gb, r, sl, F0, hT, -⟩ := h
  have HT := Lib.hid hT
  have HP := Lib.hid (fun (x : World) (hx : KB w k w.heap.size x) => rank_any _ r S.L S.gone F0 (hT.later hx.drew.b).rope k)
  clear hT
  unfold itemE at HP
  by_cases hk : k ∈ S.L
  · rw [if_pos hk]
    have hp := HP.out
    rw [if_pos hk] at hp
    have HP := Lib.hid hp
    clear hp hk
    go_enter Try.func25, Try.ntmps25
    go_upto_region 3 with fail
    refine wp_let (KB w k w.heap.size) (KB.new w k) (fun x hx => ?_)
    have HX := Lib.hid hx
    have hT2 := HT.out.later hx.drew.b
    have HP := Lib.hid (HP.out x hx)
    have e1 := blk_cell hT2.top 3
    have c0 := hx.drew.c0
    have c1 := hx.drew.c1
    clear hT2 hx
    go_region_with (go_at_call 46; (with_reducible refine HP.out.mono ?_); rintro e w' ⟨rfl, hb⟩; have HB := Lib.hid hb; clear hb)
    all_goals
      go_wp2
      go_ret2
      exact ⟨rfl, (HX.out.drew.later HB.out).b⟩
  · rw [if_neg hk, show rankV S.L S.gone k = 0 from by unfold rankV; rw [if_neg hk]]
    have hp := HP.out
    rw [if_neg hk] at hp
    have HP := Lib.hid hp
    clear hp hk
    go_enter Try.func25, Try.ntmps25
    go_upto_region 3 with fail
    refine wp_let (KB w k w.heap.size) (KB.new w k) (fun x hx => ?_)
    have HX := Lib.hid hx
    have hT2 := HT.out.later hx.drew.b
    have HP := Lib.hid (HP.out x hx)
    have e1 := blk_cell hT2.top 3
    have c0 := hx.drew.c0
    have c1 := hx.drew.c1
    clear hT2 hx
    go_region_with (go_at_call 46; (with_reducible refine HP.out.mono ?_); rintro e w' ⟨rfl, hb⟩; have HB := Lib.hid hb; clear hb)
    all_goals
      go_wp2
      go_ret2
      exact ⟨rfl, (HX.out.drew.later HB.out).b⟩
def atTV (S : Tx) (n : Int) : Value := if 0 ≤ n ∧ n < cnt S.gone S.L then elV S (nthV S.L S.gone n) else .agg #[.int .i64 0, .int .i64 0, .int .i64 0, .bool false]
def atTE (S : Tx) (n : Int) : Int := if 0 ≤ n ∧ n < cnt S.gone S.L then 0 else 123
theorem nthV_mem {L : List St} {hid : St → Bool} {n : Int} (h : 0 ≤ n ∧ n < cnt hid L) : nthV L hid n ∈ L := by
  unfold nthV
  rw [if_pos h]
  have h2 : n.toNat < (shownL hid L).length := by rw [← cnt_shown]; omega
  rw [List.getD_eq_getElem?_getD, List.getElem?_eq_getElem h2, Option.getD_some]
  exact (List.mem_filter.1 (show (shownL hid L)[n.toNat] ∈ L.filter fun k => !hid k from List.getElem_mem h2)).1
abbrev elZ : Array Value := #[.int .i64 0, .int .i64 0, .int .i64 0, .bool false]
set_option maxHeartbeats 1000000 in
set_option maxRecDepth 20000 in
theorem at_text (w : World) (t : Nat) (S : Tx) (F : Nat → Prop) (h : Text w t S F) (n : Int) : Calls Try.prog 21 #[ptr t, .int .i64 n] w fun e w' => e = .returned (.tuple #[atTV S n, .int .i64 (atTE S n)]) ∧ Below w.heap.size w w' := by
  have H0 := Lib.hid h
  obtain ⟨kb, cb, gb, r, sl, F0, hT, -⟩ := h
  have HB0 := Lib.hid (show Below w.heap.size w (w.alloc (.cells #[.int .i64 0, .int .i64 0, .int .i64 0, .bool false] 44)) from (Below.refl _ _).alloc (Nat.le_refl _) _)
  have hT2 := hT.later HB0.out
  have H := Lib.hid (nth_any _ r S.L S.gone F0 hT2.rope n)
  have e1 := blk_cell hT2.top 3
  have f1 := blk_free hT2.top 3
  clear hT hT2
  have hx := blk_new w (.cells #[.int .i64 0, .int .i64 0, .int .i64 0, .bool false] 44)
  have HXX := Lib.hid hx
  clear hx
  unfold atTV atTE
  by_cases hn : 0 ≤ n ∧ n < cnt S.gone S.L
  · rw [if_pos hn, if_pos hn]
    have hm := nthV_mem hn
    have hp := H.out
    unfold nthE at hp
    rw [if_pos hn] at hp
    have H := Lib.hid hp
    have HM := Lib.hid hm
    clear hp hn hm
    generalize nthV S.L S.gone n = k at *
    go_enter Try.func21, Try.ntmps21
    go_upto_region 4 with (go_at_call 43; with_reducible refine H.out.mono ?_; rintro e w' ⟨rfl, hb⟩; have HB1 := Lib.hid hb; clear hb)
    refine wp_let (fun x => Below w.heap.size w x ∧ x.heap[w.heap.size]? = some (.cells elZ 44 (0, 0)) ∧ x.heap[w'.heap.size]? = some (.cells #[.int .i64 k.1, .int .i64 k.2] 30 (0, 0))) ⟨(HB0.out.trans (HB1.out.mono HB0.out.size)).alloc (HB0.out.trans (HB1.out.mono HB0.out.size)).size _, blk_alloc ((HB1.out.block _ (heap_lt HXX.out)).trans HXX.out), blk_new _ _⟩ (fun x hx => ?_)
    have HX := Lib.hid hx
    have c0 := blk_cell hx.2.2 0
    have c1 := blk_cell hx.2.2 1
    have HE := Lib.hid (element_any x t S F (H0.out.later hx.1) k HM.out)
    clear hx
    go_wp2_with (first | (go_at_call 41; with_reducible refine HE.out.mono ?_; rintro e w2 ⟨rfl, hb⟩; have HB2 := Lib.hid hb; clear hb) | (refine wpList_store_row rfl (.tmp 4) (.tmp 25) 44 rfl w.heap.size elZ #[.int .i64 k.1, .int .i64 k.2, .int .i64 (S.ch k), .bool (S.gone k)] rfl rfl ((HB2.out.block _ (heap_lt HX.out.2.1)).trans HX.out.2.1) (by kernel_rfl) rfl (by kernel_rfl) ?_; intro z hc hz; have z0 := blk_cell hz 0; have z1 := blk_cell hz 1; have z2 := blk_cell hz 2; have z3 := blk_cell hz 3; have HC := Lib.hid hc; clear hc hz))
    refine bodyPost_ret (v := .tuple #[elV S k, .int .i64 0]) (by simp [results, Try.results21, go_sem, z0, z1, z2, z3]) rfl ⟨rfl, ?_⟩
    exact (((Ch.of_below (F := fun z => z = w.heap.size) HX.out.1).later HB2.out).trans HC.out (fun _ _ h => h)).below (Nat.le_refl _) (fun y hy e => by omega)
  · rw [if_neg hn, if_neg hn]
    have hp := H.out
    unfold nthE at hp
    rw [if_neg hn] at hp
    have H := Lib.hid hp
    clear hp hn
    generalize nthV S.L S.gone n = k at *
    go_enter Try.func21, Try.ntmps21
    go_upto_region 4 with (go_at_call 43; with_reducible refine H.out.mono ?_; rintro e w' ⟨rfl, hb⟩; have HB1 := Lib.hid hb; clear hb)
    refine wp_let (fun x => Below w.heap.size w x ∧ x.heap[w.heap.size]? = some (.cells elZ 44 (0, 0))) ⟨(HB0.out.trans (HB1.out.mono HB0.out.size)).alloc (HB0.out.trans (HB1.out.mono HB0.out.size)).size _, blk_alloc ((HB1.out.block _ (heap_lt HXX.out)).trans HXX.out)⟩ (fun x hx => ?_)
    have HX := Lib.hid hx
    clear hx
    go_wp2_with (refine wpList_store_row rfl (.tmp 4) (.tmp 22) 44 rfl w.heap.size elZ elZ rfl rfl HX.out.2 (by kernel_rfl) rfl (by kernel_rfl) ?_; intro z hc hz; have z0 := blk_cell hz 0; have z1 := blk_cell hz 1; have z2 := blk_cell hz 2; have z3 := blk_cell hz 3; have HC := Lib.hid hc; clear hc hz)
    refine bodyPost_ret (v := .tuple #[.agg elZ, .int .i64 123]) (by simp [results, Try.results21, go_sem, z0, z1, z2, z3]) rfl ⟨rfl, ?_⟩
    exact ((Ch.of_below (F := fun z => z = w.heap.size) HX.out.1).trans HC.out (fun _ _ h => h)).below (Nat.le_refl _) (fun y hy e => by omega)
end Go.Proofs.Ytohpablkgfkelaa
