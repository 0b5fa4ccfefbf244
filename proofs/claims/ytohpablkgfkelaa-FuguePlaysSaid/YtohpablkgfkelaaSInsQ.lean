/- slices.Insert OF ONE ELEMENT, at slices.Insert[[]*stemma/rope.run[stemma/api.Stamp],*stemma/rope.run[stemma/api.Stamp]]: what it answers, in the words of ownership. -/
import Derived.Test.YtohpablkgfkelaaRow
import Derived.Deep.AppendLies
import Derived.Deep.RegionHeld3
import Derived.Deep.RegionLaw
import Derived.BigGuard
import Derived.WalkSpells
namespace Go.Proofs.Ytohpablkgfkelaa
open Go.RowKit Go.Joins
set_option linter.unusedSimpArgs false
set_option linter.unusedVariables false

def InsQ (v : Value) (n : Nat) (cs : List Value) (w : World) (e : Ending) (w' : World) : Prop :=
  ∃ g cap, e = .returned (.slice (some ⟨g, 0, none⟩) (n + 1) cap) ∧ w'.ownsRow 0 101 1 (.slice (some ⟨g, 0, none⟩) (n + 1) cap) (n + 1) cs ∧ Ch (fun b => v.ownBlock = some b) w w' ∧ (v.ownBlock = some g ∨ w.heap.size ≤ g)
theorem Slot.infoQ : (Try.prog.info? 101).map (fun i => (i.zero, i.size, i.bytes)) = some (some (.pointer none), 1, 8) := by kernel_rfl
set_option maxHeartbeats 1000000 in
/-- at the end, the nil slice -/
theorem ins_nilQ (xs : List Value) (xb : Nat) (w : World) (hx : w.heap[xb]? = some (.cells xs.toArray 101 (0, 0))) (hxl : xs.length = 1) (h1 : ∀ u ∈ xs, u.oneCell' = true) :
    Calls Try.prog 64 #[.slice none 0 0, .int .i64 0, .slice (some ⟨xb, 0, none⟩) 1 1] w (InsQ (.slice none 0 0) 0 xs w) := by
  obtain ⟨i0, hi, hz0, hz1, hz2⟩ := info_parts Slot.infoQ
  have HX := Lib.hid hx
  have HL := Lib.hid hxl
  have H1 := Lib.hid h1
  clear hx hxl h1
  go_enter Try.func64, Try.ntmps64
  go_wp2_with (at_builtin; refine wpList_append_lies _ rfl (.tmp 23) (.tmp 24) 96 rfl 0 101 i0 (.pointer none) 1 8 Try.underlying96 hi hz0 hz1 hz2 rfl (by decide) (.slice none 0 0) 0 [] rfl (World.ownsRow_nil _ _ _ _) ⟨xb, 0, none⟩ 1 1 xs rfl (by rw [HL.out]) (fun j u hj => by rw [Addr.add_lit, Nat.zero_add, blk_cell HX.out]; simpa using hj) H1.out (by omega) (by unfold maxLen; omega) (by omega) (Nat.zero_le _) w.heap.size rfl ?_; intro g cap w1 hown hgrow hat hlt)
  go_ret
  refine ⟨g, cap, rfl, ?_, ?_, ?_⟩
  · simpa using hown
  · exact (Ch.of_grown hgrow).mono (fun x _ h => by cases h)
  · rcases hat with h | h
    · exact Or.inl h
    · exact Or.inr (by omega)
set_option maxHeartbeats 1000000 in
/-- at the end -/
theorem ins_endQ (g0 n c : Nat) (cs xs : List Value) (xb : Nat) (w : World) (hown : w.ownsRow 0 101 1 (.slice (some ⟨g0, 0, none⟩) n c) n cs) (hn : n < 1099511627776) (hx : w.heap[xb]? = some (.cells xs.toArray 101 (0, 0))) (hxl : xs.length = 1) (h1 : ∀ u ∈ xs, u.oneCell' = true) :
    Calls Try.prog 64 #[.slice (some ⟨g0, 0, none⟩) n c, .int .i64 n, .slice (some ⟨xb, 0, none⟩) 1 1] w (InsQ (.slice (some ⟨g0, 0, none⟩) n c) n (cs ++ xs) w) := by
  obtain ⟨i0, hi, hz0, hz1, hz2⟩ := info_parts Slot.infoQ
  have hc : n ≤ c ∧ c ≤ maxLen := by
    rcases hown.2 with ⟨h0, _⟩ | ⟨g', cap', cur, he, _, _, h2, h3, _⟩
    · cases h0
    · obtain ⟨rfl, rfl⟩ : g0 = g' ∧ c = cap' := by simpa using he
      exact ⟨h2, h3⟩
  obtain ⟨hc1, hc2⟩ := hc
  unfold maxLen at hc2
  have HX := Lib.hid hx
  have HL := Lib.hid hxl
  have H1 := Lib.hid h1
  have HO := Lib.hid hown
  clear hx hxl h1 hown
  have fin : ∀ g cap w1, w1.ownsRow 0 101 1 (.slice (some ⟨g, 0, none⟩) (n + 1) cap) (n + 1) (cs ++ xs) → w.grownBy w1 (Value.slice (some ⟨g0, 0, none⟩) n c).ownBlock → ((Value.slice (some ⟨g0, 0, none⟩) n c).ownBlock = some g ∨ g = w.heap.size) → InsQ (.slice (some ⟨g0, 0, none⟩) n c) n (cs ++ xs) w (.returned (.slice (some ⟨g, 0, none⟩) (n + 1) cap)) w1 := by
    intro g cap w1 h1 h2 h3
    exact ⟨g, cap, rfl, h1, (Ch.of_grown h2).mono (fun x _ h => h.symm), h3.imp id (fun h => by omega)⟩
  have FIN := Lib.hid fin
  clear fin
  by_cases hcn : c = n
  · subst hcn
    go_enter Try.func64, Try.ntmps64
    go_wp2_with (at_builtin; refine wpList_append_lies _ rfl (.tmp 23) (.tmp 24) 96 rfl 0 101 i0 (.pointer none) 1 8 Try.underlying96 hi hz0 hz1 hz2 rfl (by decide) (.slice (some ⟨g0, 0, none⟩) c c) c cs rfl HO.out ⟨xb, 0, none⟩ 1 1 xs rfl (by rw [HL.out]) (fun j u hj => by rw [Addr.add_lit, Nat.zero_add, blk_cell HX.out]; simpa using hj) H1.out (by omega) (by unfold maxLen; omega) (by omega) (Nat.zero_le _) w.heap.size rfl ?_; intro g cap w1 hown hgrow hat hlt)
    go_ret
    exact FIN.out g cap _ hown hgrow hat
  · go_enter Try.func64, Try.ntmps64
    go_wp2_with (at_builtin; refine wpList_append_lies _ rfl (.tmp 23) (.tmp 24) 96 rfl 0 101 i0 (.pointer none) 1 8 Try.underlying96 hi hz0 hz1 hz2 rfl (by decide) (.slice (some ⟨g0, 0, none⟩) n c) n cs rfl HO.out ⟨xb, 0, none⟩ 1 1 xs rfl (by rw [HL.out]) (fun j u hj => by rw [Addr.add_lit, Nat.zero_add, blk_cell HX.out]; simpa using hj) H1.out (by omega) (by unfold maxLen; omega) (by omega) (Nat.zero_le _) w.heap.size rfl ?_; intro g cap w1 hown hgrow hat hlt)
    go_ret
    exact FIN.out g cap _ hown hgrow hat
theorem own_partsQ {w : World} {g0 n c : Nat} {cs : List Value} (hown : w.ownsRow 0 101 1 (.slice (some ⟨g0, 0, none⟩) n c) n cs) :
    cs.length = n * 1 ∧ n ≤ c ∧ c ≤ maxLen ∧ ∃ cur, w.heap[g0]? = some (.cells cur 101 (0, 0)) ∧ cur.size = c * 1 ∧ cur.toList.take (n * 1) = cs := by
  rcases hown.2 with ⟨h0, _⟩ | ⟨g', cap', cur, he, _, h1, h2, h3, h4, h5⟩
  · cases h0
  · obtain ⟨rfl, rfl⟩ : g0 = g' ∧ c = cap' := by simpa using he
    exact ⟨hown.1, h2, h3, cur, h1, h4, h5⟩
theorem own_makeQ {w : World} {g n c : Nat} {cs : List Value} {cur : Array Value} (hl : cs.length = n * 1) (hn : n ≤ c) (hc : c ≤ maxLen) (h : w.heap[g]? = some (.cells cur 101 (0, 0))) (hs : cur.size = c * 1) (ht : cur.toList.take (n * 1) = cs) :
    w.ownsRow 0 101 1 (.slice (some ⟨g, 0, none⟩) n c) n cs := ⟨hl, .inr ⟨g, c, cur, rfl, Nat.zero_le _, h, hn, hc, hs, ht⟩⟩
theorem cell_of_ownQ {w : World} {g0 n : Nat} {cs : List Value} {cur : Array Value} (h : w.heap[g0]? = some (.cells cur 101 (0, 0))) (ht : cur.toList.take (n * 1) = cs) (j : Nat) (v : Value) (hj : cs[j]? = some v) : w.cell? ⟨g0, j, none⟩ = some v := by
  rw [blk_cell h, ← Array.getElem?_toList]
  rw [← ht, List.getElem?_take] at hj
  split at hj
  · exact hj
  · cases hj
set_option maxHeartbeats 4000000 in
set_option maxRecDepth 100000 in
/-- in the midst, no room -/
theorem ins_growQ (g0 n i : Nat) (cs xs : List Value) (xb : Nat) (w : World) (hi : i < n) (hown : w.ownsRow 0 101 1 (.slice (some ⟨g0, 0, none⟩) n n) n cs) (hn : n < 1099511627776) (hx : w.heap[xb]? = some (.cells xs.toArray 101 (0, 0))) (hxl : xs.length = 1) (h1 : ∀ u ∈ xs, u.oneCell' = true) (h1c : ∀ u ∈ cs, u.oneCell' = true) :
    Calls Try.prog 64 #[.slice (some ⟨g0, 0, none⟩) n n, .int .i64 i, .slice (some ⟨xb, 0, none⟩) 1 1] w (InsQ (.slice (some ⟨g0, 0, none⟩) n n) n (cs.take (i) ++ xs ++ cs.drop (i)) w) := by
  obtain ⟨i0, hi0, hz0, hzs, hzb⟩ := info_parts Slot.infoQ
  obtain ⟨hcl, _, _, cur, hb, hcs, hct⟩ := own_partsQ hown
  have hsz : (Try.prog.info? 101).map (·.size) = some 1 := by rw [hi0]; simp [hzs]
  have hcell := cell_of_ownQ hb hct
  have hik : i + (n + 1 - i) = n + 1 := by omega
  have hold : (Builtin.firstCells i0.size i (.slice (some ⟨g0, 0, none⟩) i n)).run Try.prog w.drew = .ok (cs.take (i)).toArray w.drew := by
    rw [hzs]
    exact run_firstCells_some w.drew 1 i ⟨g0, 0, none⟩ i n (cs.take (i)) (by rw [List.length_take]; omega) (fun j v hj => by
      rw [Addr.add_lit, Nat.zero_add]
      rw [List.getElem?_take] at hj
      split at hj
      · exact hcell j v hj
      · cases hj)
  have hzc : ∀ k, (Builtin.zeroCells (.pointer none : Value).cells k).size = k * 1 := fun k => by simp [Builtin.zeroCells, Value.cells]
  have hG1 := grownCap_ge w (n + 1) n 101
  have hG2 := grownCap_le_maxLen w (n + 1) n 101 (by unfold maxLen; omega)
  have hrz : ∀ ty, ∃ w1, (Builtin.append_ #[96, 3] ty #[.slice (some ⟨g0, 0, none⟩) i n, .int .i64 ((n : Int) + 1 - (i : Int))]).run Try.prog w =
      .ok (.slice (some ⟨w.heap.size, 0, none⟩) (n + 1) (grownCap w (n + 1) n 101)) w1 ∧ ∃ row : Array Value, w1.heap[w.heap.size]? = some (.cells row 101 (0, 0)) ∧ row.size = grownCap w (n + 1) n 101 * 1 ∧ row.toList.take (i) = cs.take (i) ∧ Ch (fun _ => False) w w1 ∧ w1.heap.size = w.heap.size + 1 := fun ty => by
    have h := Lib.run_append_grow_zeros w 96 3 ty 101 i0 _ .i64 .i64 Try.underlying96 Try.underlying3 hi0 hz0 (some ⟨g0, 0, none⟩) i n (cs.take (i)) hold (n + 1 - i) (by omega) (by omega) (by omega) (by omega) (by rw [hzb]; omega) (by rw [hzb, hik]; exact growslice_fits (by omega) (by omega))
    rw [hik] at h
    rw [show (n : Int) + 1 - (i : Int) = ((n + 1 - i : Nat) : Int) by omega]
    refine ⟨_, h, _, blk_at _ _ _ rfl, ?_, ?_, ((Ch.refl _ w).drew).alloc _, by simp⟩
    · simp only [Array.size_append, hzc, List.size_toArray, List.length_take]
      have e1 : min (i) cs.length = i := by omega
      rw [e1]; omega
    · simp only [Array.toList_append]
      rw [List.append_assoc, List.take_append_of_le_length (by simp; omega), List.take_of_length_le (by simp; omega)]
  generalize grownCap w (n + 1) n 101 = G at *
  have hxw : xb < w.heap.size := heap_lt hx
  have hgw : g0 < w.heap.size := heap_lt hb
  have hcpA : ∀ w1 : World, (∃ row : Array Value, w1.heap[w.heap.size]? = some (.cells row 101 (0, 0)) ∧ row.size = G * 1 ∧ row.toList.take (i) = cs.take (i) ∧ Ch (fun _ => False) w w1 ∧ w1.heap.size = w.heap.size + 1) → ∀ ty,
      ∃ w2, (Builtin.copy_ #[96, 96] ty #[.slice (some ⟨w.heap.size, i, none⟩) (n + 1 - i) (G - i), .slice (some ⟨xb, 0, none⟩) 1 1]).run Try.prog w1 = .ok (.int .i64 1) w2 ∧
        ∃ row : Array Value, w2.heap[w.heap.size]? = some (.cells (splice row (i) xs) 101 (0, 0)) ∧ row.size = G * 1 ∧ row.toList.take (i) = cs.take (i) ∧ Ch (fun x => x = w.heap.size) w w2 ∧ w2.heap.size = w.heap.size + 1 := by
    rintro w1 ⟨row, hr1, hr2, hr3, hch, hs1⟩ ty
    have hmin : Nat.min 1 (n + 1 - i) = 1 := by simp only [Nat.min_def]; split <;> omega
    obtain ⟨w2, hrun, hb2, hc2, hs2⟩ := run_copy_blk (P := Try.prog) w1 96 96 ty 101 1 w.heap.size (i) (n + 1 - i) (G - i) ⟨xb, 0, none⟩ 1 1 xs row 101 Try.underlying96 hsz (by rw [hmin, hxl]) hr1 (by rw [hr2, hxl]; omega)
      (fun j u hj => by rw [Addr.add_lit, Nat.zero_add, blk_cell (hch.at hx (fun h => h))]; simpa using hj) h1
    rw [hmin] at hrun
    exact ⟨w2, hrun, row, hb2, hr2, hr3, hch.trans hc2 (fun x hx e => by omega) |>.mono (fun x _ h => h.elim), hs2.trans hs1⟩
  have hcpB : ∀ w2 : World, (∃ row : Array Value, w2.heap[w.heap.size]? = some (.cells (splice row (i) xs) 101 (0, 0)) ∧ row.size = G * 1 ∧ row.toList.take (i) = cs.take (i) ∧ Ch (fun x => x = w.heap.size) w w2 ∧ w2.heap.size = w.heap.size + 1) → ∀ ty,
      ∃ w3, (Builtin.copy_ #[96, 96] ty #[.slice (some ⟨w.heap.size, i + 1, none⟩) (n + 1 - (i + 1)) (G - (i + 1)), .slice (some ⟨g0, i, none⟩) (n - i) (n - i)]).run Try.prog w2 = .ok (.int .i64 ((n - i : Nat) : Int)) w3 ∧
        InsQ (.slice (some ⟨g0, 0, none⟩) n n) n (cs.take (i) ++ xs ++ cs.drop (i)) w (.returned (.slice (some ⟨w.heap.size, 0, none⟩) (n + 1) G)) w3 := by
    rintro w2 ⟨row, hr1, hr2, hr3, hch, hs1⟩ ty
    have hmin : Nat.min (n - i) (n + 1 - (i + 1)) = n - i := by simp only [Nat.min_def]; split <;> omega
    have hsp : (splice row (i) xs).size = G * 1 := (splice_size _ _ _ (by rw [hxl, hr2]; omega)).trans hr2
    have hdl : (cs.drop (i)).length = (n - i) * 1 := by rw [List.length_drop]; omega
    obtain ⟨w3, hrun, hb3, hc3, hs3⟩ := run_copy_blk (P := Try.prog) w2 96 96 ty 101 1 w.heap.size (i + 1) (n + 1 - (i + 1)) (G - (i + 1)) ⟨g0, i, none⟩ (n - i) (n - i) (cs.drop (i)) _ 101 Try.underlying96 hsz (by rw [hmin, hdl]) hr1 (by rw [hsp, hdl]; omega)
      (fun j u hj => by
        rw [Addr.add_lit, blk_cell (hch.at hb (by omega)), ← blk_cell hb]
        exact hcell _ u (by rwa [List.getElem?_drop] at hj)) (fun u hu => h1c u (List.mem_of_mem_drop hu))
    rw [hmin] at hrun
    have hm := put_mid (cs := cs) (xs := xs) (row := row) (m := i) (s := 1) hxl (by omega) hr3 (by rw [hr2]; omega)
    rw [show i + 1 = i + 1 by omega] at hm
    refine ⟨w3, hrun, w.heap.size, G, rfl, own_makeQ (by simp [hxl, hdl]; omega) hG1 hG2 hb3 (hm.2.trans hr2) (by rw [← hm.1]; congr 1; omega), (hch.trans hc3 (fun _ _ h => h)).mono (fun x hx e => by omega), Or.inr (Nat.le_refl _)⟩
  have HA := Lib.hid hcpA
  have HB := Lib.hid hcpB
  have HZ := Lib.hid hrz
  unfold maxLen at hG2
  have hw1 : IntKind.i64.wrap ((i : Int) + 1) = (i : Int) + 1 := by rw [IntKind.wrap_i64]; omega
  have hb1 : (0 : Int) ≤ (i : Int) + 1 := by omega
  have hin : i ≤ n := by omega
  have htn : ((i : Int) + 1).toNat = i + 1 := by omega
  have hb3 : (i : Int) ≤ (n : Int) := by omega
  have hb4 : (i : Int) + 1 ≤ (n : Int) + 1 := by omega
  have hz2 : ¬ ((i : Int) = (n : Int)) := by omega
  have hne : ¬ (n = i) := by omega
  have hGi : ¬ (G = i) := by omega
  have hGim : ¬ (G = i + 1) := by omega
  clear hcpA hcpB hrz hold hcell hct hcs hb hcl hsz hik hzc hi0 hz0 hzs hzb hown hx hxl h1 h1c
  go_enter Try.func64, Try.ntmps64
  go_wp2_with (first
    | (at_builtin; refine wpList_append_ex _ rfl (.tmp 34) (.tmp 39) 96 3 rfl _ _ rfl rfl (HZ.out _) ?_; intro w1 hr1; have HR1 := Lib.hid hr1; clear hr1)
    | (refine wpList_copy_ex _ rfl (.tmp 43) (.tmp 44) 96 96 rfl _ _ rfl rfl (HA.out _ HR1.out _) ?_; rintro w2 ⟨row, q1, q2, q3, q4, q5⟩; have HC := Lib.hid (HB.out w2.drew ⟨row, q1, q2, q3, q4.drew, q5⟩); clear q1 q2 q3 q4 q5))
  go_region_held3 (fun _ => True) (trivial) ((refine step_copy_ex rfl (.tmp 50) (.tmp 53) 96 96 rfl _ _ (by simp [Act.eval, Act.put]) (by simp [Act.eval, Act.put]) (HC.out _) ?_; intro w3 hfin))
  go_wp2
  go_ret
  exact hfin
set_option maxHeartbeats 4000000 in
set_option maxRecDepth 100000 in
/-- in the midst, there is room: in place -/
theorem ins_roomQ (g0 n c i : Nat) (cs xs : List Value) (xb : Nat) (w : World) (hi : i < n) (hnc : n < c) (hown : w.ownsRow 0 101 1 (.slice (some ⟨g0, 0, none⟩) n c) n cs) (hn : n < 1099511627776) (hx : w.heap[xb]? = some (.cells xs.toArray 101 (0, 0))) (hxg : xb ≠ g0) (hxl : xs.length = 1) (h1 : ∀ u ∈ xs, u.oneCell' = true) (h1c : ∀ u ∈ cs, u.oneCell' = true) :
    Calls Try.prog 64 #[.slice (some ⟨g0, 0, none⟩) n c, .int .i64 i, .slice (some ⟨xb, 0, none⟩) 1 1] w (InsQ (.slice (some ⟨g0, 0, none⟩) n c) n (cs.take (i) ++ xs ++ cs.drop (i)) w) := by
  obtain ⟨i0, hi0, hz0, hzs, hzb⟩ := info_parts Slot.infoQ
  obtain ⟨hcl, _, hc2, cur, hb, hcs, hct⟩ := own_partsQ hown
  have hsz : (Try.prog.info? 101).map (·.size) = some 1 := by rw [hi0]; simp [hzs]
  have hcell := cell_of_ownQ hb hct
  have hov : ∀ (W : World) lb cb, W.heap[xb]? = some (.cells xs.toArray 101 (0, 0)) → W.heap[g0]? = some (.cells cur 101 (0, 0)) → (callFunc 66 #[.slice (some ⟨xb, 0, none⟩) 1 1, .slice (some ⟨g0, i + 1, none⟩) lb cb]).run Try.prog W = .ok (.value (.bool false)) W := fun W lb cb hx hb => by
    rw [run_callFunc_extern Try.func66 (by kernel_rfl) (by kernel_rfl) (by kernel_rfl) (e := Extern.SlicesOverlaps.overlaps #[96, 96] #[4]) (by kernel_rfl),
      Lib.run_overlaps_apart W 96 4 101 Try.underlying96 1 Try.sizeOf101 ⟨xb, 0, none⟩ ⟨g0, i + 1, none⟩ 1 1 lb cb hxg 101 101 xs.toArray.size cur.size (by simp [World.shape?, hx]) (by simp [World.shape?, hb]) (by rw [hcs]; omega) (blk_free hx _) (blk_free hx _)]
    rfl
  have hcpA : ∀ w1 : World, w1.heap = w.heap → Ch (fun _ => False) w w1 → ∀ ty, ∃ w2, (Builtin.copy_ #[96, 96] ty #[.slice (some ⟨g0, i + 1, none⟩) (n + 1 - (i + 1)) (c - (i + 1)), .slice (some ⟨g0, i, none⟩) (n + 1 - i) (c - i)]).run Try.prog w1 = .ok (.int .i64 ((n - i : Nat) : Int)) w2 ∧
      w2.heap[g0]? = some (.cells (splice cur (i + 1) (cs.drop (i))) 101 (0, 0)) ∧ w2.heap[xb]? = some (.cells xs.toArray 101 (0, 0)) ∧ Ch (fun x => x = g0) w w2 := by
    intro w1 hw hch ty
    have hmin : Nat.min (n + 1 - i) (n + 1 - (i + 1)) = n - i := by simp only [Nat.min_def]; split <;> omega
    have hdl : (cs.drop (i)).length = (n - i) * 1 := by rw [List.length_drop]; omega
    obtain ⟨w2, hrun, hb2, hc2', hs2⟩ := run_copy_blk (P := Try.prog) w1 96 96 ty 101 1 g0 (i + 1) (n + 1 - (i + 1)) (c - (i + 1)) ⟨g0, i, none⟩ (n + 1 - i) (c - i) (cs.drop (i)) cur 101 Try.underlying96 hsz (by rw [hmin, hdl]) (by rw [hw]; exact hb) (by rw [hcs, hdl]; omega)
      (fun j u hj => by
        rw [Addr.add_lit, blk_cell (by rw [hw]; exact hb : w1.heap[g0]? = _), ← blk_cell hb]
        exact hcell _ u (by rwa [List.getElem?_drop] at hj)) (fun u hu => h1c u (List.mem_of_mem_drop hu))
    rw [hmin] at hrun
    exact ⟨w2, hrun, hb2, hc2'.at (by rw [hw]; exact hx) hxg, (hch.mono (fun x _ h => h.elim)).trans hc2' (fun x _ e => e)⟩
  have hcpB : ∀ w2 : World, (w2.heap[g0]? = some (.cells (splice cur (i + 1) (cs.drop (i))) 101 (0, 0)) ∧ w2.heap[xb]? = some (.cells xs.toArray 101 (0, 0)) ∧ Ch (fun x => x = g0) w w2) → ∀ ty,
      ∃ w3, (Builtin.copy_ #[96, 96] ty #[.slice (some ⟨g0, i, none⟩) (n + 1 - i) (c - i), .slice (some ⟨xb, 0, none⟩) 1 1]).run Try.prog w2 = .ok (.int .i64 1) w3 ∧
        InsQ (.slice (some ⟨g0, 0, none⟩) n c) n (cs.take (i) ++ xs ++ cs.drop (i)) w (.returned (.slice (some ⟨g0, 0, none⟩) (n + 1) c)) w3 := by
    rintro w2 ⟨hr1, hr2, hch⟩ ty
    have hmin : Nat.min 1 (n + 1 - i) = 1 := by simp only [Nat.min_def]; split <;> omega
    have hdl : (cs.drop (i)).length = (n - i) * 1 := by rw [List.length_drop]; omega
    have hsp : (splice cur (i + 1) (cs.drop (i))).size = c * 1 := (splice_size _ _ _ (by rw [hdl, hcs]; omega)).trans hcs
    obtain ⟨w3, hrun, hb3, hc3, hs3⟩ := run_copy_blk (P := Try.prog) w2 96 96 ty 101 1 g0 (i) (n + 1 - i) (c - i) ⟨xb, 0, none⟩ 1 1 xs _ 101 Try.underlying96 hsz (by rw [hmin, hxl]) hr1 (by rw [hsp, hxl]; omega)
      (fun j u hj => by rw [Addr.add_lit, Nat.zero_add, blk_cell hr2]; simpa using hj) h1
    rw [hmin] at hrun
    have hm := put_room (cs := cs) (xs := xs) (row := cur) (m := i) (s := 1) hxl (by omega) (by rw [hcl]; exact hct) (by rw [hcs]; omega)
    rw [show i + 1 = i + 1 by omega] at hm
    refine ⟨w3, hrun, g0, c, rfl, own_makeQ (by simp [hxl, hdl]; omega) (by omega) hc2 hb3 (hm.2.trans hcs) (by rw [← hm.1]; congr 1; omega), (hch.trans hc3 (fun _ _ h => h)).mono (fun x hx e => by rw [e]; rfl), Or.inl rfl⟩
  have HA := Lib.hid (hcpA w.drew rfl (Ch.refl _ w).drew)
  have HB := Lib.hid hcpB
  have HV := Lib.hid (fun lb cb => hov w lb cb hx hb)
  unfold maxLen at hc2
  have hw1 : IntKind.i64.wrap ((i : Int) + 1) = (i : Int) + 1 := by rw [IntKind.wrap_i64]; omega
  have hb1 : (0 : Int) ≤ (i : Int) + 1 := by omega
  have hin : i ≤ n := by omega
  have htn : ((i : Int) + 1).toNat = i + 1 := by omega
  have hb3 : (i : Int) ≤ (n : Int) := by omega
  have hb4 : (i : Int) + 1 ≤ (n : Int) + 1 := by omega
  have hz2 : ¬ ((i : Int) = (n : Int)) := by omega
  have hc3 : ¬ ((c : Int) < (n : Int) + 1) := by omega
  have hb5 : (i : Int) ≤ (n : Int) + 1 := by omega
  have hb6 : i ≤ n + 1 := by omega
  have hne : ¬ (n = i) := by omega
  have hci : ¬ (c = i) := by omega
  have hcim : ¬ (c = i + 1) := by omega
  have hcn : ¬ (c = n) := by omega
  clear hcpA hcpB hov hcell hct hcs hb hcl hsz hi0 hz0 hzs hzb hown hx hxl h1 h1c
  go_enter Try.func64, Try.ntmps64
  go_wp2_with (simp only [HV.out])
  go_region_held3 (fun _ => True) (trivial) ((refine step_copy_ex rfl (.tmp 73) (.tmp 76) 96 96 rfl _ _ (by simp [Act.eval, Act.put]) (by simp [Act.eval, Act.put]) (HA.out _) ?_; intro w2 hr2; have HR2 := Lib.hid hr2; clear hr2))
  go_wp2_with (refine wpList_copy_ex _ rfl (.tmp 80) (.tmp 81) 96 96 rfl _ _ rfl rfl (HB.out _ HR2.out _) ?_; intro w3 hfin)
  go_ret
  exact hfin
/-- slices.Insert OF ONE ELEMENT: whatever the slice and the place -/
theorem ins_anyQ (v : Value) (n i : Nat) (cs xs : List Value) (xb : Nat) (w : World) (hi : i ≤ n) (hown : w.ownsRow 0 101 1 v n cs) (hn : n < 1099511627776) (hx : w.heap[xb]? = some (.cells xs.toArray 101 (0, 0))) (hxg : v.ownBlock ≠ some xb) (hxl : xs.length = 1) (h1 : ∀ u ∈ xs, u.oneCell' = true) (h1c : ∀ u ∈ cs, u.oneCell' = true) :
    Calls Try.prog 64 #[v, .int .i64 i, .slice (some ⟨xb, 0, none⟩) 1 1] w (InsQ v n (cs.take (i) ++ xs ++ cs.drop (i)) w) := by
  rcases hown.2 with ⟨rfl, rfl⟩ | ⟨g0, c, cur, rfl, _, hb, hnc, hc, hs, ht⟩
  · obtain rfl : i = 0 := by omega
    have : cs = [] := List.eq_nil_of_length_eq_zero (by have := hown.1; omega)
    subst this
    rw [List.take_nil, List.drop_nil, List.nil_append, List.append_nil]
    exact ins_nilQ xs xb w hx hxl h1
  · by_cases h : i = n
    · subst h
      have hl := hown.1
      have c' := ins_endQ g0 i c cs xs xb w hown hn hx hxl h1
      rw [List.take_of_length_le (by omega), List.drop_eq_nil_of_le (by omega), List.append_nil]
      exact c'
    · by_cases hcn : c = n
      · subst hcn
        exact ins_growQ g0 c i cs xs xb w (by omega) hown hn hx hxl h1 h1c
      · exact ins_roomQ g0 n c i cs xs xb w (by omega) (by omega) hown hn hx (fun e => hxg (by rw [e]; rfl)) hxl h1 h1c
end Go.Proofs.Ytohpablkgfkelaa
