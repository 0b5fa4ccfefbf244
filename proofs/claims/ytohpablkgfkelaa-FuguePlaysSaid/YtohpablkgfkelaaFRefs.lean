/- THE DOCUMENT's TEXT: At, Index. THE DOCUMENT's TEXT: Between. THE DOCUMENT's TEXT: Insert. THE DOCUMENT's TEXT: Delete. THE TEXT AND THE DOCUMENT's, SIDE BY SIDE: each act at the one leaves the other alone. -/
import Derived.Test.YtohpablkgfkelaaFRefA
import Derived.Deep.RegionLaw
import Derived.Deep.AppendLies
import Derived.Test.YtohpablkgfkelaaFWritten2
namespace Go.Proofs.Ytohpablkgfkelaa
open Go.RowKit Go.Joins
set_option linter.unusedSimpArgs false
set_option linter.unusedVariables false

theorem nthV_shown {S : Tx} {q : Nat} (h : q < cnt S.gone S.L) : (shownE S.els)[q]? = some (S.el (nthV S.L S.gone q)) := by
  unfold Tx.els
  rw [shownE_map, List.getElem?_map]
  have h2 : q < (shownL S.gone S.L).length := h
  unfold nthV
  rw [if_pos ⟨by omega, by exact_mod_cast h⟩, List.getD_eq_getElem?_getD, Int.toNat_natCast, List.getElem?_eq_getElem h2]
  rfl
theorem nthV_shown' {S : Tx} {n : Int} (h : 0 ≤ n ∧ n < cnt S.gone S.L) : (shownE S.els)[n.toNat]? = some (S.el (nthV S.L S.gone n)) := by
  have := nthV_shown (S := S) (q := n.toNat) (by omega)
  rwa [Int.toNat_of_nonneg h.1] at this
theorem shownE_els (S : Tx) : (shownE S.els).length = cnt S.gone S.L := shownE_len S S.L
set_option maxHeartbeats 4000000 in
set_option maxRecDepth 20000 in
theorem at_ref (w : World) (m : Nat) (I : List It) (S : Tx) (F : Nat → Prop) (h : RefM w m I F) (hR : Ref I S) (hl : I.length < 4294967296) (n : Int) :
    Calls Try.prog 24 #[ptr m, .int .i64 n] w fun e w' => e = .returned (.tuple #[atTV S n, .int .i64 (atTE S n)]) ∧ Below w.heap.size w w' := by
  have HB0 := Lib.hid (show Below w.heap.size w (w.alloc (.cells elZ 44)) from (Below.refl _ _).alloc (Nat.le_refl _) _)
  have hx := blk_new w (.cells elZ 44)
  have HXX := Lib.hid hx
  have HAL := Lib.hid (all_ref _ m I S F (h.later HB0.out) hR hl)
  have hSl : S.L.length < 4294967296 := by rw [← hR.length]; exact hl
  have HSL := Lib.hid hSl
  have HCL := Lib.hid (cnt_le S.gone S.L)
  clear hx h hR hSl
  go_enter Try.func24, Try.ntmps24
  go_wp2_with fail
  with_reducible refine HAL.out.mono ?_
  rintro e w1 ⟨v1, rfl, hr, hbb⟩
  obtain ⟨ao, cap, rfl, hat⟩ := RowEl.formS (S := S) hr rfl
  have HB1 := Lib.hid (HB0.out.trans (hbb.mono HB0.out.size))
  have HX1 := Lib.hid ((hbb.block _ (heap_lt HXX.out)).trans HXX.out)
  have HSH := Lib.hid (shown_ref w1 ao cap S.els S.L.length hat (els_len S) HSL.out)
  clear hr hbb hat
  go_wp2_with fail
  with_reducible refine HSH.out.mono ?_
  rintro e w2 ⟨v2, rfl, hr, hbb⟩
  obtain ⟨ao2, cap2, rfl, hat, -⟩ := hr.form
  rw [shownE_els]
  have HB2 := Lib.hid (HB1.out.trans (hbb.mono HB1.out.size))
  have HX2 := Lib.hid ((hbb.block _ (heap_lt HX1.out)).trans HX1.out)
  have HAT := Lib.hid hat
  have hcb : (cnt S.gone S.L : Int) < 4294967296 := by have := HSL.out; have := HCL.out; omega
  clear hr hbb hat
  by_cases h0 : n < 0
  · have d0 : decide (n < 0) = true := decide_eq_true h0
    have HV := Lib.hid (show atTV S n = .agg elZ ∧ atTE S n = 123 by unfold atTV atTE; rw [if_neg (by omega), if_neg (by omega)]; exact ⟨rfl, rfl⟩)
    clear h0
    go_wp2_with (refine wpList_store_row rfl (.tmp 4) (.tmp 18) 44 rfl w.heap.size elZ elZ rfl rfl HX2.out (by kernel_rfl) rfl (by kernel_rfl) ?_; intro z hc hz; have z0 := blk_cell hz 0; have z1 := blk_cell hz 1; have z2 := blk_cell hz 2; have z3 := blk_cell hz 3; have HC := Lib.hid hc; clear hc hz)
    refine bodyPost_ret (v := .tuple #[.agg elZ, .int .i64 123]) (by simp [results, Try.results24, go_sem, z0, z1, z2, z3]) rfl ⟨by rw [HV.out.1, HV.out.2], ?_⟩
    exact ((Ch.of_below (F := fun z => z = w.heap.size) HB2.out).trans HC.out (fun _ _ h => h)).below (Nat.le_refl _) (fun y hy e => by omega)
  · have d0 : decide (n < 0) = false := decide_eq_false h0
    by_cases h1 : (cnt S.gone S.L : Int) ≤ n
    · have d1 : decide ((cnt S.gone S.L : Int) ≤ n) = true := decide_eq_true h1
      have HV := Lib.hid (show atTV S n = .agg elZ ∧ atTE S n = 123 by unfold atTV atTE; rw [if_neg (by omega), if_neg (by omega)]; exact ⟨rfl, rfl⟩)
      clear h0 h1
      go_wp2_with (refine wpList_store_row rfl (.tmp 4) (.tmp 18) 44 rfl w.heap.size elZ elZ rfl rfl HX2.out (by kernel_rfl) rfl (by kernel_rfl) ?_; intro z hc hz; have z0 := blk_cell hz 0; have z1 := blk_cell hz 1; have z2 := blk_cell hz 2; have z3 := blk_cell hz 3; have HC := Lib.hid hc; clear hc hz)
      refine bodyPost_ret (v := .tuple #[.agg elZ, .int .i64 123]) (by simp [results, Try.results24, go_sem, z0, z1, z2, z3]) rfl ⟨by rw [HV.out.1, HV.out.2], ?_⟩
      exact ((Ch.of_below (F := fun z => z = w.heap.size) HB2.out).trans HC.out (fun _ _ h => h)).below (Nat.le_refl _) (fun y hy e => by omega)
    · have d1 : decide ((cnt S.gone S.L : Int) ≤ n) = false := decide_eq_false h1
      have HV := Lib.hid (show atTV S n = elV S (nthV S.L S.gone n) ∧ atTE S n = 0 by unfold atTV atTE; rw [if_pos (by omega), if_pos (by omega)]; exact ⟨rfl, rfl⟩)
      have hq := nthV_shown' (S := S) (n := n) ⟨by omega, by omega⟩
      generalize nthV S.L S.gone n = k at *
      obtain ⟨A, rfl, -, cx⟩ := HAT.out n.toNat _ hq
      have c0 : w2.cell? ⟨A, n.toNat * 4, none⟩ = some (.int .i64 k.1) := cx 0 _ rfl
      have c1 : w2.cell? ⟨A, n.toNat * 4 + 1, none⟩ = some (.int .i64 k.2) := cx 1 _ rfl
      have c2 : w2.cell? ⟨A, n.toNat * 4 + 2, none⟩ = some (.int .i64 (S.ch k)) := cx 2 _ rfl
      have c3 : w2.cell? ⟨A, n.toNat * 4 + 3, none⟩ = some (.bool (S.gone k)) := cx 3 _ rfl
      have b0 : (0 : Int) ≤ n := by omega
      have b1 : n < (cnt S.gone S.L : Int) := by omega
      clear cx hq h0 h1
      generalize cnt S.gone S.L = cn at *
      go_wp2_with (refine wpList_store_row rfl (.tmp 4) (.tmp 22) 44 rfl w.heap.size elZ #[.int .i64 k.1, .int .i64 k.2, .int .i64 (S.ch k), .bool (S.gone k)] rfl rfl HX2.out (by kernel_rfl) rfl (by kernel_rfl) ?_; intro z hc hz; have z0 := blk_cell hz 0; have z1 := blk_cell hz 1; have z2 := blk_cell hz 2; have z3 := blk_cell hz 3; have HC := Lib.hid hc; clear hc hz)
      refine bodyPost_ret (v := .tuple #[elV S k, .int .i64 0]) (by simp [results, Try.results24, go_sem, z0, z1, z2, z3]) rfl ⟨by rw [HV.out.1, HV.out.2], ?_⟩
      exact ((Ch.of_below (F := fun z => z = w.heap.size) HB2.out).trans HC.out (fun _ _ h => h)).below (Nat.le_refl _) (fun y hy e => by omega)
set_option maxHeartbeats 4000000 in
set_option maxRecDepth 20000 in
theorem index_ref' (w : World) (m : Nat) (I : List It) (S : Tx) (F : Nat → Prop) (h : RefM w m I F) (hR : Ref I S) (hl : I.length < 4294967296) (k : St) (vr ve : Int) (hvr : vr = rankV S.L S.gone k) (hve : ve = if k ∈ S.L then 0 else 121) :
    Calls Try.prog 26 #[ptr m, encS k] w fun e w' => e = .returned (.tuple #[.int .i64 vr, .int .i64 ve]) ∧ Below w.heap.size w w' := by
  have HKB := Lib.hid (KB.new w k)
  have HAL := Lib.hid (all_ref _ m I S F (h.later HKB.out.b) hR hl)
  have hSl : S.L.length < 4294967296 := by rw [← hR.length]; exact hl
  have HSL := Lib.hid hSl
  have HCL := Lib.hid (fun q => cnt_le S.gone (S.L.take q))
  clear h hR hSl
  go_enter Try.func26, Try.ntmps26
  go_wp2_with fail
  with_reducible refine HAL.out.mono ?_
  rintro e w1 ⟨v1, rfl, hr, hbb⟩
  obtain ⟨ao, cap, hv, hat, hlc, hmx⟩ := hr.form
  rw [show (List.map S.el S.L).length = S.L.length by simp] at hv hlc
  subst hv
  have HB1 := Lib.hid (HKB.out.later hbb)
  have HPL := Lib.hid (placeR_els w1 ao cap S S.L.length hat rfl HSL.out k)
  have HAT := Lib.hid hat
  have k0 := HB1.out.c0
  have k1 := HB1.out.c1
  clear hr hbb hat
  go_wp2_with fail
  with_reducible refine HPL.out.mono ?_
  rintro e w2 ⟨rfl, hbb⟩
  have HB2 := Lib.hid (HB1.out.later hbb)
  have HAT2 := Lib.hid (ElsAt.below HAT.out hbb)
  clear hbb k0 k1
  by_cases hk : k ∈ S.L
  · rw [placeE_in hk]
    have HV := Lib.hid (show vr = (cnt S.gone (S.L.take (S.L.idxOf k)) : Nat) ∧ ve = 0 by rw [hve, if_pos hk, hvr]; unfold rankV; rw [if_pos hk]; exact ⟨rfl, rfl⟩)
    clear hvr hve
    have hi := List.idxOf_lt_length_of_mem hk
    have hib : ((S.L.idxOf k : Nat) : Int) < (S.L.length : Int) := by omega
    have HSH := Lib.hid (shown_ref w2 ao cap (S.els.take (S.L.idxOf k)) (S.L.idxOf k) (fun i x hx => HAT2.out i x (by
      rw [List.getElem?_take] at hx
      split at hx
      · exact hx
      · cases hx)) (by simp [Tx.els]; omega) (by have := HSL.out; omega))
    have hlen : (shownE (S.els.take (S.L.idxOf k))).length = cnt S.gone (S.L.take (S.L.idxOf k)) := by
      unfold Tx.els
      rw [← List.map_take, shownE_len]
    have HLE := Lib.hid hlen
    have hic : (S.L.idxOf k : Nat) ≤ cap := by omega
    have hne : (0 : Int) ≤ ((S.L.idxOf k : Nat) : Int) := by omega
    have hsb := HSL.out
    obtain ⟨A, rfl⟩ : ∃ A, ao = some ⟨A, 0, none⟩ := by
      obtain ⟨b, e, -⟩ := HAT2.out 0 _ (List.getElem?_eq_getElem (by simp; omega))
      exact ⟨b, e⟩
    generalize S.L.idxOf k = i at *
    clear hlen hk
    go_wp2_with fail
    with_reducible refine HSH.out.mono ?_
    rintro e w3 ⟨v3, rfl, hr, hbb⟩
    obtain ⟨ao3, cap3, hv, -⟩ := hr.form
    rw [HLE.out] at hv
    subst hv
    have HB3 := Lib.hid (HB2.out.later hbb)
    clear hr hbb
    generalize cnt S.gone (S.L.take i) = cn at *
    go_wp2
    go_ret2
    exact ⟨by rw [HV.out.1, HV.out.2]; rfl, HB3.out.b⟩
  · rw [placeE_out hk]
    have HV := Lib.hid (show vr = 0 ∧ ve = 121 by rw [hve, if_neg hk, hvr]; unfold rankV; rw [if_neg hk]; exact ⟨rfl, rfl⟩)
    clear hvr hve
    clear hk
    go_wp2
    go_ret2
    exact ⟨by rw [HV.out.1, HV.out.2]; rfl, HB2.out.b⟩
theorem index_ref (w : World) (m : Nat) (I : List It) (S : Tx) (F : Nat → Prop) (h : RefM w m I F) (hR : Ref I S) (hl : I.length < 4294967296) (k : St) :
    Calls Try.prog 26 #[ptr m, encS k] w fun e w' => e = .returned (.tuple #[.int .i64 (rankV S.L S.gone k), .int .i64 (if k ∈ S.L then 0 else 121)]) ∧ Below w.heap.size w w' := index_ref' w m I S F h hR hl k _ _ rfl rfl
end Go.Proofs.Ytohpablkgfkelaa
namespace Go.Proofs.Ytohpablkgfkelaa
open Go.RowKit Go.Joins
set_option linter.unusedSimpArgs false
set_option linter.unusedVariables false

/-- behind an element with right kids stands another -/
theorem bet_next {S : Tx} (hok : S.Ok) {n : Int} (ho : ¬ betOut S n) (hK : S.K (betA S n) 2 ≠ []) : betN S n < S.L.length := by
  obtain ⟨h0, h1⟩ := not_or.1 ho
  by_cases hn : 0 < n
  · have hr : 0 ≤ n - 1 ∧ n - 1 < cnt S.gone S.L := by omega
    have ha : betA S n = nthV S.L S.gone (n - 1) := by unfold betA; rw [if_pos hn]
    have haL : betA S n ∈ S.L := by rw [ha]; exact nthV_mem hr
    have hN : betN S n = (S.L.idxOf (betA S n) : Nat) + 1 := by unfold betN placeV; rw [if_pos hn, if_pos haL]
    rw [hN]
    generalize betA S n = a at *
    have hsp := split_at haL
    obtain ⟨U, V, Al, Ar, hL, -, hB, -⟩ := hok.fl.at haL
    have hnd := hok.nodup
    have e : S.L = (U ++ Al) ++ a :: (Ar ++ V) := by rw [hL]; simp
    rw [e] at hnd
    obtain ⟨e1, e2⟩ := mid_inj (e.symm.trans hsp) hnd
    have hAr : Ar ≠ [] := fun e0 => by
      rw [e0] at hB
      cases hk2 : S.K a 2 with
      | nil => exact hK hk2
      | cons y ys => rw [hk2] at hB; exact absurd rfl hB.ne_nil
    have hpos := List.length_pos_iff.2 hAr
    have hlen := congrArg List.length e
    have hlt := congrArg List.length e1
    have hi := List.idxOf_lt_length_of_mem haL
    simp at hlen hlt
    omega
  · have hn0 : n = 0 := by omega
    subst hn0
    have hN : betN S 0 = 0 := rfl
    rw [hN]
    have hfl := hok.fl
    cases hL : S.L with
    | nil =>
      rw [hL] at hfl
      cases hk2 : S.K (0, 0) 2 with
      | nil => exact absurd hk2 hK
      | cons y ys => rw [hk2] at hfl; exact absurd rfl hfl.ne_nil
    | cons b C => simp
theorem els_atV {S : Tx} {m : Int} (h0 : 0 ≤ m) (h1 : m < S.L.length) : S.els[m.toNat]? = some (S.el (atV S.L m)) := by
  unfold Tx.els atV
  rw [if_pos ⟨h0, h1⟩, List.getElem?_map, List.getD_eq_getElem?_getD, List.getElem?_eq_getElem (by omega)]
  rfl
/-- the boxes -/
structure BC (w w2 : World) (a : St) (y : World) : Prop where
  b : Below w.heap.size w y
  b2 : Below w2.heap.size w2 y
  lt : w.heap.size < w2.heap.size
  rb : y.heap[w.heap.size]? = some (.cells #[.int .i64 0, .int .i64 0] 30 (0, 0))
  ab : y.heap[w2.heap.size]? = some (.cells #[.int .i64 a.1, .int .i64 a.2] 30 (0, 0))
theorem BC.later {w w2 y z : World} {a : St} (h : BC w w2 a y) (b : Below y.heap.size y z) : BC w w2 a z :=
  ⟨h.b.trans (b.mono h.b.size), h.b2.trans (b.mono h.b2.size), h.lt, (b.block _ (heap_lt h.rb)).trans h.rb, (b.block _ (heap_lt h.ab)).trans h.ab⟩
theorem BC.turn {w w2 y z : World} {a a2 : St} (h : BC w w2 a y) (c : Ch (fun u => u = w2.heap.size) y z) (hz : z.heap[w2.heap.size]? = some (.cells #[.int .i64 a2.1, .int .i64 a2.2] 30 (0, 0))) : BC w w2 a2 z :=
  ⟨((Ch.of_below (F := fun u => u = w2.heap.size) h.b).trans c (fun _ _ h => h)).below (Nat.le_refl _) (fun x hx e => by have := h.lt; omega), ((Ch.of_below (F := fun u => u = w2.heap.size) h.b2).trans c (fun _ _ h => h)).below (Nat.le_refl _) (fun x hx e => by omega), h.lt, c.at h.rb (fun e => by have := h.lt; omega), hz⟩
theorem BC.end {w w2 y z : World} {a : St} (h : BC w w2 a y) (c : Ch (fun u => u = w.heap.size) y z) : Below w.heap.size w z :=
  ((Ch.of_below (F := fun u => u = w.heap.size) h.b).trans c (fun _ _ h => h)).below (Nat.le_refl _) (fun x hx e => by omega)
set_option maxHeartbeats 4000000 in
set_option maxRecDepth 20000 in
theorem betR_out (w : World) (m : Nat) (I : List It) (S : Tx) (F : Nat → Prop) (h : RefM w m I F) (hR : Ref I S) (hl : I.length < 4294967296) (n : Int) (ho : betOut S n) :
    Calls Try.prog 28 #[ptr m, .int .i64 n] w fun e w' => e = .returned (.tuple #[encS (0, 0), .int .i64 0, .int .i64 123]) ∧ Below w.heap.size w w' := by
  have HB0 := Lib.hid (show Below w.heap.size w (w.alloc (stO (0, 0))) from (Below.refl _ _).alloc (Nat.le_refl _) _)
  have hx := blk_new w (stO (0, 0))
  have HXX := Lib.hid hx
  have HAL := Lib.hid (all_ref _ m I S F (h.later HB0.out) hR hl)
  have hSl : S.L.length < 4294967296 := by rw [← hR.length]; exact hl
  have HSL := Lib.hid hSl
  have HO := Lib.hid ho
  clear hx h hR hSl ho
  go_enter Try.func28, Try.ntmps28
  go_wp2_with fail
  with_reducible refine HAL.out.mono ?_
  rintro e w1 ⟨v1, rfl, hr, hbb⟩
  obtain ⟨ao, cap, rfl, hat⟩ := RowEl.formS (S := S) hr rfl
  have HB1 := Lib.hid (HB0.out.trans (hbb.mono HB0.out.size))
  have HX1 := Lib.hid ((hbb.block _ (heap_lt HXX.out)).trans HXX.out)
  have HSH := Lib.hid (shown_ref w1 ao cap S.els S.L.length hat (els_len S) HSL.out)
  clear hr hbb hat
  go_wp2_with fail
  with_reducible refine HSH.out.mono ?_
  rintro e w2 ⟨v2, rfl, hr, hbb⟩
  obtain ⟨ao2, cap2, rfl, -⟩ := hr.form
  rw [shownE_els]
  have HB2 := Lib.hid (HB1.out.trans (hbb.mono HB1.out.size))
  have HX2 := Lib.hid ((hbb.block _ (heap_lt HX1.out)).trans HX1.out)
  clear hr hbb
  by_cases h0 : n < 0
  · have d0 : decide (n < 0) = true := decide_eq_true h0
    clear h0 HO HSH HAL HB1 HX1 HXX HB0
    generalize cnt S.gone S.L = cn at *
    go_wp2_with (refine wpList_store_row rfl (.tmp 4) (.tmp 23) 30 rfl w.heap.size #[.int .i64 0, .int .i64 0] #[.int .i64 0, .int .i64 0] rfl rfl HX2.out (by kernel_rfl) rfl (by kernel_rfl) ?_; intro z hc hz; have z0 := blk_cell hz 0; have z1 := blk_cell hz 1; have HC := Lib.hid hc; clear hc hz)
    refine bodyPost_ret (v := .tuple #[encS (0, 0), .int .i64 0, .int .i64 123]) (by simp [results, Try.results28, go_sem, z0, z1]) rfl ⟨rfl, ?_⟩
    exact ((Ch.of_below (F := fun z => z = w.heap.size) HB2.out).trans HC.out (fun _ _ h => h)).below (Nat.le_refl _) (fun y hy e => by omega)
  · have d0 : decide (n < 0) = false := decide_eq_false h0
    have h1 : (cnt S.gone S.L : Int) < n := HO.out.resolve_left h0
    have d1 : decide ((cnt S.gone S.L : Int) < n) = true := decide_eq_true h1
    clear h0 h1 HO HSH HAL HB1 HX1 HXX HB0
    generalize cnt S.gone S.L = cn at *
    go_wp2_with (refine wpList_store_row rfl (.tmp 4) (.tmp 23) 30 rfl w.heap.size #[.int .i64 0, .int .i64 0] #[.int .i64 0, .int .i64 0] rfl rfl HX2.out (by kernel_rfl) rfl (by kernel_rfl) ?_; intro z hc hz; have z0 := blk_cell hz 0; have z1 := blk_cell hz 1; have HC := Lib.hid hc; clear hc hz)
    refine bodyPost_ret (v := .tuple #[encS (0, 0), .int .i64 0, .int .i64 123]) (by simp [results, Try.results28, go_sem, z0, z1]) rfl ⟨rfl, ?_⟩
    exact ((Ch.of_below (F := fun z => z = w.heap.size) HB2.out).trans HC.out (fun _ _ h => h)).below (Nat.le_refl _) (fun y hy e => by omega)
set_option maxHeartbeats 4000000 in
set_option maxRecDepth 20000 in
theorem betR_in (w : World) (m : Nat) (I : List It) (S : Tx) (F : Nat → Prop) (h : RefM w m I F) (hR : Ref I S) (hl : I.length < 4294967296) (n : Int) (ho : ¬ betOut S n) (vp : St) (vs : Int)
    (hvp : vp = if S.K (betA S n) 2 = [] then betA S n else atV S.L (betN S n)) (hvs : vs = if S.K (betA S n) 2 = [] then 2 else 1) :
    Calls Try.prog 28 #[ptr m, .int .i64 n] w fun e w' => e = .returned (.tuple #[encS vp, .int .i64 vs, .int .i64 0]) ∧ Below w.heap.size w w' := by
  have HB0 := Lib.hid (show Below w.heap.size w (w.alloc (stO (0, 0))) from (Below.refl _ _).alloc (Nat.le_refl _) _)
  have hx := blk_new w (stO (0, 0))
  have HXX := Lib.hid hx
  have HAL := Lib.hid (all_ref _ m I S F (h.later HB0.out) hR hl)
  have hSl : S.L.length < 4294967296 := by rw [← hR.length]; exact hl
  have HSL := Lib.hid hSl
  obtain ⟨h0, h1⟩ := not_or.1 ho
  have d0 : decide (n < 0) = false := decide_eq_false h0
  have d1 : decide ((cnt S.gone S.L : Int) < n) = false := decide_eq_false h1
  have HVP := Lib.hid hvp
  have HVS := Lib.hid hvs
  have HNX := Lib.hid (bet_next hR.ok ho)
  have HAA := Lib.hid (show betA S n = if 0 < n then nthV S.L S.gone (n - 1) else (0, 0) from rfl)
  have HNN := Lib.hid (show betN S n = if 0 < n then placeV S.L (betA S n) + 1 else 0 from rfl)
  have HAM := Lib.hid (show 0 < n → betA S n ∈ S.L ∧ (shownE S.els)[(n - 1).toNat]? = some (S.el (betA S n)) from fun hn => by
    have ha : betA S n = nthV S.L S.gone (n - 1) := by unfold betA; rw [if_pos hn]
    have hr : 0 ≤ n - 1 ∧ n - 1 < cnt S.gone S.L := by omega
    rw [ha]
    exact ⟨nthV_mem hr, nthV_shown' hr⟩)
  have HRM := Lib.hid h
  have HRR := Lib.hid hR
  have HH := Lib.hid (And.intro h0 h1)
  generalize betA S n = a at *
  generalize betN S n = nx at *
  clear hx h hR hSl ho h0 h1 hvp hvs
  go_enter Try.func28, Try.ntmps28
  go_wp2_with fail
  with_reducible refine HAL.out.mono ?_
  rintro e w1 ⟨v1, rfl, hr, hbb⟩
  obtain ⟨ao, cap, rfl, hat⟩ := RowEl.formS (S := S) hr rfl
  have HB1 := Lib.hid (HB0.out.trans (hbb.mono HB0.out.size))
  have HX1 := Lib.hid ((hbb.block _ (heap_lt HXX.out)).trans HXX.out)
  have HSH := Lib.hid (shown_ref w1 ao cap S.els S.L.length hat (els_len S) HSL.out)
  have HAT1 := Lib.hid hat
  clear hr hbb hat
  go_wp2_with fail
  with_reducible refine HSH.out.mono ?_
  rintro e w2 ⟨v2, rfl, hr, hbb⟩
  obtain ⟨ao2, cap2, rfl, hat, -⟩ := hr.form
  rw [shownE_els]
  have HB2 := Lib.hid (HB1.out.trans (hbb.mono HB1.out.size))
  have HX2 := Lib.hid ((hbb.block _ (heap_lt HX1.out)).trans HX1.out)
  have HAT2 := Lib.hid (HAT1.out.below hbb)
  have HAS := Lib.hid hat
  have HLT := Lib.hid (heap_lt HX2.out)
  clear hr hbb hat HSH HAT1 HAL HB1 HX1 HXX HB0
  generalize cnt S.gone S.L = cn at *
  obtain ⟨sl, hsl⟩ : ∃ z, S.L.length = z := ⟨_, rfl⟩
  rw [hsl]
  have HSLE := Lib.hid hsl
  clear hsl
  go_upto_if 26 with fail
  refine wp_let (BC w w2 (0, 0)) ⟨HB2.out.alloc HB2.out.size _, (Below.refl _ _).alloc (Nat.le_refl _) _, HLT.out, blk_alloc HX2.out, blk_new _ _⟩ (fun x hx => ?_)
  have HX := Lib.hid hx
  clear hx HX2 HB2
  go_cut [10] (fun v z => v = .int .i64 nx ∧ BC w w2 a z)
  case first =>
    by_cases hn : 0 < n
    · have dn : decide (0 < n) = true := decide_eq_true hn
      have hm1 := HNN.out
      rw [if_pos hn] at hm1
      obtain ⟨hal, hq⟩ := HAM.out hn
      obtain ⟨A, rfl, -, cx⟩ := (HAS.out.below HX.out.b2) (n - 1).toNat _ hq
      rw [show (n - 1).toNat = n.toNat - 1 by omega] at cx
      have c0 : x.cell? ⟨A, (n.toNat - 1) * 4, none⟩ = some (.int .i64 a.1) := cx 0 _ rfl
      have c1 : x.cell? ⟨A, (n.toNat - 1) * 4 + 1, none⟩ = some (.int .i64 a.2) := cx 1 _ rfl
      have hw : wrap64 (n - 1) = n - 1 := by have := (List.getElem?_eq_some_iff.1 hq).1; have h3 := shownE_le S.els; rw [els_len] at h3; have := HSL.out; unfold wrap64; omega
      have b0 : (0 : Int) ≤ n - 1 := by omega
      have b1 : n - 1 < (cn : Int) := by have := HH.out.2; omega
      have HM1 := Lib.hid (show placeE S.els a = nx - 1 by rw [placeE_in hal]; unfold placeV at hm1; rw [if_pos hal] at hm1; omega)
      have HPB := Lib.hid (show 0 ≤ nx ∧ nx < 4294967297 by have := List.idxOf_lt_length_of_mem hal; unfold placeV at hm1; rw [if_pos hal] at hm1; have := HSL.out; omega)
      clear cx hq hm1 hal hn
      go_upto_region 9 with (refine wpList_store_row rfl (.tmp 9) (.tmp 32) 30 rfl w2.heap.size #[.int .i64 0, .int .i64 0] #[.int .i64 a.1, .int .i64 a.2] rfl rfl HX.out.ab (by kernel_rfl) rfl (by kernel_rfl) ?_; intro z hc hz; have HZ := Lib.hid (HX.out.turn (a2 := a) hc hz); clear hc hz)
      clear c0 c1
      have a0 := blk_cell HZ.out.ab 0
      have a1 := blk_cell HZ.out.ab 1
      have HPL := Lib.hid (placeR_els z ao cap S sl (HAT2.out.below HZ.out.b2) HSLE.out (by rw [← HSLE.out]; exact HSL.out) a)
      rw [HM1.out] at HPL
      have HPW := Lib.hid (show wrap64 nx = nx by have := HPB.out; unfold wrap64; omega)
      go_wp2_with (go_at_call 18; (with_reducible refine HPL.out.mono ?_); rintro e y2 ⟨rfl, hb⟩; have HQ := Lib.hid (HZ.out.later hb); clear hb)
      go_meet
      exact ⟨by congr 1, HQ.out⟩
    · have hr1 := HAA.out
      have hm1 := HNN.out
      rw [if_neg hn] at hr1 hm1
      subst hr1
      subst hm1
      go_wp2_with fail
      go_meet
      exact ⟨rfl, HX.out⟩
  case rest =>
    obtain ⟨rfl, hbb⟩ := hcut
    generalize wc = y at *
    have HY := Lib.hid hbb
    have HK := Lib.hid (kids_any y m I S F (HRM.out.later HY.out.b) HRR.out hl a 2)
    have a0 := blk_cell HY.out.ab 0
    have a1 := blk_cell HY.out.ab 1
    clear hbb HX
    go_upto_region 10 with fail
    go_upto_if 41 with (go_at_call 49; (with_reducible refine HK.out.mono ?_); rintro e z ⟨v1, L1, rfl, hk, hr, hb⟩; obtain ⟨n1, hn1⟩ : ∃ q, L1.length = q := ⟨_, rfl⟩; obtain ⟨ak, ck, rfl, -⟩ := hr.news hn1; have HZ := Lib.hid (HY.out.later hb); have HKE := Lib.hid (hk.keys HRR.out); have HN1 := Lib.hid hn1; clear hb hr hk hn1)
    clear a0 a1
    have a0 := blk_cell HZ.out.ab 0
    have a1 := blk_cell HZ.out.ab 1
    rcases Nat.eq_zero_or_pos n1 with hk | hk
    · have he : S.K a 2 = [] := by rw [← HKE.out, List.eq_nil_of_length_eq_zero (HN1.out.trans hk)]; rfl
      have hpp := HVP.out
      have hss := HVS.out
      rw [if_pos he] at hpp hss
      subst hpp
      subst hss
      have dk : ((n1 : Int) == 0) = true := beq_iff_eq.2 (by omega)
      clear he hk
      go_wp2_with (refine wpList_store_row rfl (.tmp 4) (.tmp 42) 30 rfl w.heap.size #[.int .i64 0, .int .i64 0] #[.int .i64 vp.1, .int .i64 vp.2] rfl rfl HZ.out.rb (by kernel_rfl) rfl (by kernel_rfl) ?_; intro z hc hz; have z0 := blk_cell hz 0; have z1 := blk_cell hz 1; have HC := Lib.hid hc; clear hc hz)
      refine bodyPost_ret (v := .tuple #[encS vp, .int .i64 2, .int .i64 0]) (by simp [results, Try.results28, go_sem, z0, z1]) rfl ⟨rfl, ?_⟩
      exact HZ.out.end HC.out
    · have he : ¬ S.K a 2 = [] := fun e => by
        have := congrArg List.length HKE.out
        rw [e, List.length_map, HN1.out] at this
        simp at this
        omega
      have hpp := HVP.out
      have hss := HVS.out
      rw [if_neg he] at hpp hss
      have h2 := HNX.out he
      have h3 : 0 ≤ nx := by
        rw [HNN.out]
        split
        · unfold placeV; split <;> omega
        · omega
      have hq := els_atV h3 h2
      rw [← hpp] at hq
      obtain ⟨A, rfl, -, cx⟩ := (HAT2.out.below HZ.out.b2) nx.toNat _ hq
      have c0 : z.cell? ⟨A, nx.toNat * 4, none⟩ = some (.int .i64 vp.1) := cx 0 _ rfl
      have c1 : z.cell? ⟨A, nx.toNat * 4 + 1, none⟩ = some (.int .i64 vp.2) := cx 1 _ rfl
      have b0 : (0 : Int) ≤ nx := h3
      have b1 : nx < (sl : Int) := by rw [← HSLE.out]; exact h2
      have HSS := Lib.hid hss
      have dk : ((n1 : Int) == 0) = false := beq_eq_false_iff_ne.2 (by omega)
      clear he hk hpp hss h2 h3 hq cx
      go_wp2_with (refine wpList_store_row rfl (.tmp 4) (.tmp 47) 30 rfl w.heap.size #[.int .i64 0, .int .i64 0] #[.int .i64 vp.1, .int .i64 vp.2] rfl rfl HZ.out.rb (by kernel_rfl) rfl (by kernel_rfl) ?_; intro z hc hz; have z0 := blk_cell hz 0; have z1 := blk_cell hz 1; have HC := Lib.hid hc; clear hc hz)
      refine bodyPost_ret (v := .tuple #[encS vp, .int .i64 1, .int .i64 0]) (by simp [results, Try.results28, go_sem, z0, z1]) rfl ⟨by rw [HSS.out], ?_⟩
      exact HZ.out.end HC.out
theorem between_ref (w : World) (m : Nat) (I : List It) (S : Tx) (F : Nat → Prop) (h : RefM w m I F) (hR : Ref I S) (hl : I.length < 4294967296) (n : Int) :
    Calls Try.prog 28 #[ptr m, .int .i64 n] w fun e w' => e = .returned (.tuple #[encS (betP S n), .int .i64 (betS S n), .int .i64 (betE S n)]) ∧ Below w.heap.size w w' := by
  unfold betP betS betE
  by_cases ho : betOut S n
  · rw [if_pos ho, if_pos ho, if_pos ho]
    exact betR_out w m I S F h hR hl n ho
  · rw [if_neg ho, if_neg ho, if_neg ho]
    exact betR_in w m I S F h hR hl n ho _ _ rfl rfl
end Go.Proofs.Ytohpablkgfkelaa
namespace Go.Proofs.Ytohpablkgfkelaa
open Go.RowKit Go.Joins
set_option linter.unusedSimpArgs false
set_option linter.unusedVariables false

/-- an item put behind a row, within a drawn region -/
theorem step_appI {ops : Array Oper} {w : World} {o : Oper} {a : Act} {K : Act → World → Prop} {Q : Exit → Act → World → Prop} {E : Prop} (hgd : o.guard = none) (s x : Operand)
    (ho : o.op = .call { callee := .builtin .append, args := #[s, x], argTypes := #[57, 57] }) (base : Nat) (v : Value) (L : List It) (it : It) (hs : a.eval s = v) (hown : RowIt w base v L)
    (B : Nat) (hx : a.eval x = .slice (some ⟨B, 0, none⟩) 1 1) (hB : w.heap[B]? = some (.cells (itC it).toArray 92 (0, 0))) (hlen : L.length + 1 < 4294967296) (hbase : base ≤ w.heap.size)
    (h : ∀ g cap w', RowIt w' base (.slice (some ⟨g, 0, none⟩) (L.length + 1) cap) (L ++ [it]) → w.grownBy w' v.ownBlock → (v.ownBlock = some g ∨ g = w.heap.size) → K (a.put o.dst (.slice (some ⟨g, 0, none⟩) (L.length + 1) cap)) w') : if Region.wanted o (yielded ops a.tmps) = true then Oper.wp Try.prog o a w K Q else E := by
  obtain ⟨i0, hi, hz0, hz1, hz2⟩ := info_parts infoIt
  have hw : Region.wanted o (yielded ops a.tmps) = true := by simp [Region.wanted, hgd]
  rw [if_pos hw]
  exact wp_append_lies w s x 57 ho base 92 i0 _ 7 _ Try.underlying57 hi hz0 hz1 hz2 rfl (by decide) v L.length (itL L) hs hown ⟨B, 0, none⟩ 1 1 (itC it) hx rfl
    (fun j u hj => by rw [Addr.add_lit, Nat.zero_add, blk_cell hB]; simpa using hj) (itC_one it) (by decide) (by unfold maxLen; omega) (by omega) hbase _ rfl fun g cap w' h2 h3 h4 _ => h g cap w' (by
      unfold RowIt
      rw [List.length_append, itL_append, show itL [it] = itC it by simp [itL]]
      exact h2) h3 h4
/-- the row put back into its box -/
theorem RefM.put {w z w4 : World} {m g n cap : Nat} {v : Value} {L : List It} {F : Nat → Prop} (hb : Below w.heap.size w z) (hF : F m) (hFv : ∀ b, v.ownBlock = some b → F b) (hm : z.heap[m]? = some (.cells #[v] 59 (0, 0))) (hne : v.ownBlock ≠ some m)
    (hrow : RowIt w4 0 (.slice (some ⟨g, 0, none⟩) n cap) L) (hc : z.grownBy w4 v.ownBlock) (hg : v.ownBlock = some g ∨ g = z.heap.size) :
    RefM (w4.setCell ⟨m, 0, none⟩ (.slice (some ⟨g, 0, none⟩) n cap)) m L (fun x => F x ∨ w.heap.size ≤ x) ∧ Ch F w (w4.setCell ⟨m, 0, none⟩ (.slice (some ⟨g, 0, none⟩) n cap)) := by
  have h4 := (Ch.of_grown hc).at hm (fun e => hne e.symm)
  have hgm : g ≠ m := fun e => hg.elim (fun h => hne (e ▸ h)) (fun h => by have := heap_lt hm; omega)
  have c1 : Ch F w w4 := (Ch.of_below (F := F) hb).trans (Ch.of_grown hc) (fun x _ e => hFv x e.symm)
  refine ⟨⟨_, ?_, hrow.ch ((Ch.refl (fun x => x = m) w4).setCell ⟨m, 0, none⟩ _ (fun _ => rfl)) (fun b hb' e => ?_), fun e => ?_, .inl hF, fun b hb' => ?_⟩, c1.setCell _ _ (fun _ => hF)⟩
  · rw [blk_set h4]
    rfl
  · simp [Value.ownBlock] at hb'
    exact hgm (hb'.trans e)
  · simp [Value.ownBlock] at e
    exact hgm e
  · simp [Value.ownBlock] at hb'
    subst hb'
    exact hg.elim (fun h => .inl (hFv _ h)) (fun h => .inr (by rw [h]; exact hb.size))
theorem findI_in {I : List It} {S : Tx} (h : Ref I S) {k : St} (hk : k ∈ S.L) : 0 ≤ findI I k := by
  unfold findI
  rw [if_pos ((h.mem k).1 hk)]
  omega
theorem findI_out {I : List It} {S : Tx} (h : Ref I S) {k : St} (hk : k ∉ S.L) : findI I k = -1 := by
  unfold findI
  rw [if_neg (fun e => hk ((h.mem k).2 e))]
def InsM (m : Nat) (I : List It) (S : Tx) (F : Nat → Prop) (x p : St) (s c va : Int) (w : World) (e : Ending) (w' : World) : Prop :=
  e = .returned (.int .i64 va) ∧ ∃ I', (¬ InsOk S x p s ∧ I' = I ∨ InsOk S x p s ∧ I' = I ++ [⟨⟨x, c, false⟩, p, s⟩]) ∧ RefM w' m I' (fun z => F z ∨ w.heap.size ≤ z) ∧ Ch F w w'
theorem InsM.no {m : Nat} {I : List It} {S : Tx} {F : Nat → Prop} {x p : St} {s c va vb : Int} {w w' : World} (h : RefM w m I F) (hn : ¬ InsOk S x p s) (hv : va = vb) (b : Below w.heap.size w w') : InsM m I S F x p s c va w (.returned (.int .i64 vb)) w' :=
  ⟨by rw [hv], I, .inl ⟨hn, rfl⟩, (h.later b).mono (fun _ => .inl), Ch.of_below b⟩
set_option maxHeartbeats 4000000 in
set_option maxRecDepth 20000 in
theorem insert_ref' (w : World) (m : Nat) (I : List It) (S : Tx) (F : Nat → Prop) (h : RefM w m I F) (hR : Ref I S) (hl : I.length + 1 < 4294967296) (x p : St) (s c va : Int) (hva : va = S.insE x p s) :
    Calls Try.prog 22 #[ptr m, encS x, encS p, .int .i64 s, .int .i64 c] w (InsM m I S F x p s c va w) := by
  have HVA := Lib.hid hva
  have HM := Lib.hid h
  have HRR := Lib.hid hR
  have hgs := run_stGuard
  obtain ⟨d, hd⟩ : ∃ d, decide (p = (0, 0)) = d := ⟨_, rfl⟩
  have heq := fun w => st_eq (a := p) (b := (0, 0)) hd w
  obtain ⟨r, hr⟩ : ∃ r, rightB x.1 x.2 = r := ⟨_, rfl⟩
  obtain ⟨g, hg⟩ : ∃ g, (!decide (ArgOk x p s)) = g := ⟨_, rfl⟩
  have HD := Lib.hid hd
  have HRB := Lib.hid hr
  have HG := Lib.hid hg
  have HFX := Lib.hid (fun y (hb : Below w.heap.size w y) => find_it y m I F (h.later hb) (by omega) x)
  have HFP := Lib.hid (fun y (hb : Below w.heap.size w y) => find_it y m I F (h.later hb) (by omega) p)
  have HLL := Lib.hid hl
  clear hva h hR hd hr hg hl
  go_enter Try.func22, Try.ntmps22
  go_upto_region 1 with fail
  refine wp_let (IB w x p) (IB.new w x p) (fun y hy => ?_)
  have HY := Lib.hid hy
  have x0 := blk_cell hy.xb 0
  have x1 := blk_cell hy.xb 1
  clear hy
  have HRC := Lib.hid (right1_any x.1 x.2 y)
  rw [HRB.out] at HRC
  go_upto_region 2 with (go_at_call 44; with_reducible refine HRC.out.mono ?_; rintro e z ⟨rfl, hb⟩; have HZ := Lib.hid (HY.out.later hb); clear hb)
  clear x0 x1
  have p0 := blk_cell HZ.out.pb 0
  have p1 := blk_cell HZ.out.pb 1
  go_upto_region 3 with fail
  clear p0 p1
  go_cut [18] (fun v z2 => v = .bool g ∧ IB w x p z2)
  case first =>
    have hA : ArgOk x p s ↔ (r = true ∧ (s = 1 ∨ s = 2) ∧ ¬ (p = (0, 0) ∧ s = 1)) := by unfold ArgOk; rw [HRB.out]
    have hG : (!decide (r = true ∧ (s = 1 ∨ s = 2) ∧ ¬ (p = (0, 0) ∧ s = 1))) = g := by rw [← HG.out]; congr 1; exact decide_eq_decide.2 hA.symm
    clear hA
    cases r
    · have hgt : g = true := by rw [← hG]; simp
      have HGT := Lib.hid hgt
      clear hG hgt
      go_wp2
      go_meet
      exact ⟨by rw [HGT.out], HZ.out⟩
    · by_cases h1 : s = 1
      · have hgt : g = d := by rw [← hG, ← HD.out]; by_cases e : p = (0, 0) <;> simp [e, h1]
        have HGT := Lib.hid hgt
        have e1 : (s == 1) = true := beq_iff_eq.2 h1
        have e3 : (s != 1) = false := bne_eq_false_iff_eq.2 h1
        have e2 : (s == 2) = false := beq_eq_false_iff_ne.2 (by omega)
        have e4 : (s != 2) = true := bne_iff_ne.2 (by omega)
        clear hG hgt h1
        cases d
        all_goals
          go_wp2
          go_meet
          exact ⟨by rw [HGT.out], HZ.out⟩
      · have e1 : (s == 1) = false := beq_eq_false_iff_ne.2 h1
        have e3 : (s != 1) = true := bne_iff_ne.2 h1
        by_cases h2 : s = 2
        · have hgt : g = false := by rw [← hG]; simp [h2]
          have HGT := Lib.hid hgt
          have e2 : (s == 2) = true := beq_iff_eq.2 h2
          have e4 : (s != 2) = false := bne_eq_false_iff_eq.2 h2
          clear hG hgt h1 h2
          cases d
          all_goals
            go_wp2
            go_meet
            exact ⟨by rw [HGT.out], HZ.out⟩
        · have e2 : (s == 2) = false := beq_eq_false_iff_ne.2 h2
          have e4 : (s != 2) = true := bne_iff_ne.2 h2
          have hgt : g = true := by rw [← hG]; simp [h1, h2]
          have HGT := Lib.hid hgt
          clear hG hgt h1 h2
          go_wp2
          go_meet
          exact ⟨by rw [HGT.out], HZ.out⟩
  case rest =>
    obtain ⟨rfl, hbb⟩ := hcut
    generalize wc = y2 at *
    have HY2 := Lib.hid hbb
    clear hbb HZ HY
    by_cases ha : ArgOk x p s
    · have hgf : g = false := by rw [← HG.out]; simp [ha]
      subst hgf
      have HA := Lib.hid ha
      clear ha HG
      have x0 := blk_cell HY2.out.xb 0
      have x1 := blk_cell HY2.out.xb 1
      obtain ⟨fi, hfi⟩ : ∃ z, findI I x = z := ⟨_, rfl⟩
      have HFI := Lib.hid hfi
      clear hfi
      have HF1 := Lib.hid (HFX.out y2 HY2.out.b)
      rw [HFI.out] at HF1
      by_cases hx : x ∈ S.L
      · have dg : decide (0 ≤ fi) = true := decide_eq_true (by rw [← HFI.out]; exact findI_in HRR.out hx)
        have HX := Lib.hid hx
        clear hx
        go_wp2_with (go_at_call 45; with_reducible refine HF1.out.mono ?_; rintro e z ⟨rfl, hb⟩; have HZ := Lib.hid (HY2.out.later hb); clear hb)
        go_ret
        exact InsM.no HM.out (fun h => h.2.1 HX.out) (by rw [HVA.out]; unfold Tx.insE; simp [HA.out, HX.out]) HZ.out.b
      · have dg : decide (0 ≤ fi) = false := decide_eq_false (by rw [← HFI.out, findI_out HRR.out hx]; omega)
        have HX := Lib.hid hx
        clear hx
        go_upto_region 7 with (go_at_call 45; with_reducible refine HF1.out.mono ?_; rintro e z ⟨rfl, hb⟩; have HZ := Lib.hid (HY2.out.later hb); clear hb)
        clear x0 x1
        have p0 := blk_cell HZ.out.pb 0
        have p1 := blk_cell HZ.out.pb 1
        obtain ⟨b, hb⟩ : ∃ z, decide (p ≠ (0, 0) ∧ p ∉ S.L) = z := ⟨_, rfl⟩
        have HBB := Lib.hid hb
        clear hb
        go_cut [41] (fun v z2 => v = .bool b ∧ IB w x p z2)
        case first =>
          cases d
          · have hp0 : p ≠ (0, 0) := of_decide_eq_false HD.out
            obtain ⟨fp, hfp⟩ : ∃ z, findI I p = z := ⟨_, rfl⟩
            have hbf : b = decide (fp < 0) := by
              rw [← HBB.out, ← hfp]
              by_cases e : p ∈ S.L
              · have := findI_in HRR.out e
                simp [e]
                omega
              · rw [findI_out HRR.out e]
                simp [e, hp0]
            have HBF := Lib.hid hbf
            have HF2 := Lib.hid (HFP.out z HZ.out.b)
            rw [hfp] at HF2
            clear hbf hp0 hfp
            go_wp2_with (go_at_call 45; with_reducible refine HF2.out.mono ?_; rintro e z2 ⟨rfl, hb⟩; have HZ2 := Lib.hid (HZ.out.later hb); clear hb)
            go_meet
            exact ⟨by rw [HBF.out], HZ2.out⟩
          · have hbf : b = false := by rw [← HBB.out]; have := of_decide_eq_true HD.out; simp [this]
            have HBF := Lib.hid hbf
            clear hbf
            go_wp2
            go_meet
            exact ⟨by rw [HBF.out], HZ.out⟩
        case rest =>
          obtain ⟨rfl, hbb⟩ := hcut
          generalize wc = y3 at *
          have HY3 := Lib.hid hbb
          clear hbb HZ HY2 p0 p1
          cases b
          · have hok : InsOk S x p s := ⟨HA.out, HX.out, by
              by_cases e : p = (0, 0)
              · exact .inl e
              · refine .inr (Classical.byContradiction fun h2 => ?_)
                have := HBB.out
                simp [e, h2] at this⟩
            have HOK := Lib.hid hok
            clear hok
            obtain ⟨v, hm, hrow, hne, hFm, hFv⟩ := HM.out.later HY3.out.b
            have HNE := Lib.hid hne
            have HFM := Lib.hid hFm
            have HFV := Lib.hid hFv
            obtain ⟨ao, cap, rfl, -⟩ := hrow.form
            obtain ⟨n, hn⟩ : ∃ z, I.length = z := ⟨_, rfl⟩
            rw [hn] at hm hrow hne hFv HNE HFV
            have HN := Lib.hid hn
            have HROW := Lib.hid hrow
            have HHM := Lib.hid hm
            have ba : Below y3.heap.size y3 (y3.alloc (.cells #[.int .i64 x.1, .int .i64 x.2, .int .i64 c, .bool false, .int .i64 p.1, .int .i64 p.2, .int .i64 s] 92)) := (Below.refl _ _).alloc (Nat.le_refl _) _
            have e0 := blk_cell hm 0
            have x0 := blk_cell HY3.out.xb 0
            have x1 := blk_cell HY3.out.xb 1
            have p0 := blk_cell HY3.out.pb 0
            have p1 := blk_cell HY3.out.pb 1
            have f0 := blk_free hm 0
            have HA2 := Lib.hid (HY3.out.later ba)
            have ra := hrow.later ba
            have hma := (ba.block _ (heap_lt hm)).trans hm
            have g0 := blk_cell hma 0
            have HMA := Lib.hid hma
            have HRA := Lib.hid ra
            have q0 := blk_cell HA2.out.xb 0
            have q1 := blk_cell HA2.out.xb 1
            have q2 := blk_cell HA2.out.pb 0
            have q3 := blk_cell HA2.out.pb 1
            clear hm hrow hne hFm hFv hn ba ra hma
            go_upto_region 9 with fail
            go_cut [] (fun wx => RefM wx m (I ++ [⟨⟨x, c, false⟩, p, s⟩]) (fun z => F z ∨ w.heap.size ≤ z) ∧ Ch F w wx)
            case first =>
              go_region_law (first | (refine step_appI rfl (.tmp 54) (.tmp 61) rfl 0 _ I ⟨⟨x, c, false⟩, p, s⟩ (by simp [Act.eval, Act.put]) HRA.out y3.heap.size (by simp [Act.eval, Act.put]) (blk_new _ _) HLL.out (Nat.zero_le _) ?_; intro g4 cap4 w4 own grow lie; have HP := Lib.hid (RefM.put HA2.out.b.drew HFM.out HFV.out HMA.out HNE.out own grow lie); have hm4 := (Ch.of_grown grow).at HMA.out (fun e => HNE.out e.symm); have s0 := blk_cell hm4 0; have s1 := blk_free hm4 0; clear own grow lie hm4))
              all_goals (go_wp2; go_meet; exact HP.out)
            case rest =>
              generalize wc = y4 at *
              have HC := Lib.hid hcut
              clear hcut e0 x0 x1 p0 p1 f0 g0 q0 q1 q2 q3
              go_wp2
              go_ret
              exact ⟨by rw [HVA.out, insE_zero.2 HOK.out]; rfl, _, .inr ⟨HOK.out, rfl⟩, HC.out.1, HC.out.2⟩
          · have HNO := Lib.hid (show ¬ InsOk S x p s ∧ va = 121 from by
              have hb := of_decide_eq_true HBB.out
              refine ⟨fun h => h.2.2.elim hb.1 hb.2, ?_⟩
              rw [HVA.out]
              unfold Tx.insE
              rw [if_neg (fun h => h HA.out), if_neg HX.out, if_pos hb])
            go_wp2
            go_ret
            exact InsM.no HM.out HNO.out.1 HNO.out.2 HY3.out.b
    · have hgt : g = true := by rw [← HG.out]; simp [ha]
      subst hgt
      have HA := Lib.hid ha
      clear ha HG
      go_wp2
      go_ret
      exact InsM.no HM.out (fun h => HA.out h.1) (by rw [HVA.out]; unfold Tx.insE; simp [HA.out]) HY2.out.b
end Go.Proofs.Ytohpablkgfkelaa
namespace Go.Proofs.Ytohpablkgfkelaa
open Go.RowKit Go.Joins
set_option linter.unusedSimpArgs false
set_option linter.unusedVariables false

theorem set_same {cur : Array Value} {i : Nat} {v : Value} (h : cur[i]? = some v) : cur.setIfInBounds i v = cur := by
  obtain ⟨hi, h⟩ := Array.getElem?_eq_some_iff.1 h
  apply Array.ext
  · simp
  · intro j h1 h2
    rw [Array.getElem_setIfInBounds (by simpa using h1)]
    split
    · rename_i e; subst e; exact h.symm
    · rfl
theorem set_far {cur : Array Value} {i j : Nat} {v u : Value} (hne : i ≠ j) (h : cur[j]? = some u) : (cur.setIfInBounds i v)[j]? = some u := by
  rw [Array.getElem?_setIfInBounds_ne hne]; exact h
theorem splice_one {cur : Array Value} {o : Nat} {a b c e f g d' : Value} (hl : o + 7 ≤ cur.size) (h0 : cur[o]? = some a) (h1 : cur[o + 1]? = some b) (h2 : cur[o + 2]? = some c) (h4 : cur[o + 4]? = some e) (h5 : cur[o + 5]? = some f) (h6 : cur[o + 6]? = some g) :
    splice cur o [a, b, c, d', e, f, g] = cur.setIfInBounds (o + 3) d' := by
  rw [← splice_cons _ _ _ _ (by omega), set_same h0, ← splice_cons _ _ _ _ (by omega), set_same h1, ← splice_cons _ _ _ _ (by omega), set_same h2, ← splice_cons _ _ _ _ (by omega)]
  rw [← splice_cons _ _ _ _ (by simp; omega), set_same (set_far (by omega) h4), ← splice_cons _ _ _ _ (by simp; omega), set_same (set_far (by omega) h5), ← splice_cons _ _ _ _ (by simp; omega), set_same (set_far (by omega) h6), splice_nil]
theorem set_gone {I : List It} {k : St} {q : Nat} {a : It} (hu : (I.map (·.e.k)).Nodup) (hq : I[q]? = some a) (hk : a.e.k = k) : I.set q { a with e := { a.e with g := true } } = goneI I k := by
  obtain ⟨hi, ha⟩ := List.getElem?_eq_some_iff.1 hq
  apply List.ext_getElem?
  intro i
  unfold goneI
  rw [List.getElem?_map]
  by_cases h : q = i
  · subst h
    rw [List.getElem?_set_self hi, hq]
    simp [hk]
  · rw [List.getElem?_set_ne h]
    cases hi2 : I[i]? with
    | none => rfl
    | some b =>
      have hne : b.e.k ≠ k := fun e => h (by
        obtain ⟨hl, hb⟩ := List.getElem?_eq_some_iff.1 hi2
        refine (List.getElem?_inj (by simpa using hi) hu).1 ?_
        rw [List.getElem?_map, List.getElem?_map, hq, hi2]
        simp [e, hk])
      simp [hne]
theorem goneI_none {I : List It} {k : St} (h : k ∉ I.map (·.e.k)) : goneI I k = I := by
  unfold goneI
  conv => rhs; rw [← List.map_id I]
  refine List.map_congr_left fun a ha => ?_
  rw [if_neg (fun e => h (by rw [← e]; exact List.mem_map_of_mem ha))]
  rfl
def DelM (m : Nat) (I : List It) (F : Nat → Prop) (k : St) (va : Int) (w : World) (e : Ending) (w' : World) : Prop :=
  e = .returned (.int .i64 va) ∧ RefM w' m (goneI I k) F ∧ Ch F w w'
/-- what the store leaves -/
theorem RefM.gone {w y : World} {m B n cap q : Nat} {I : List It} {a : It} {F : Nat → Prop} (hb : Below w.heap.size w y) (hm : y.heap[m]? = some (.cells #[.slice (some ⟨B, 0, none⟩) n cap] 59 (0, 0))) (hrow : RowIt y 0 (.slice (some ⟨B, 0, none⟩) n cap) I)
    (hne : B ≠ m) (hF : F m) (hFB : F B) (hu : (I.map (·.e.k)).Nodup) (hq : I[q]? = some a) : RefM (y.setCell ⟨B, q * 7 + 3, none⟩ (.bool true)) m (goneI I a.e.k) F ∧ Ch F w (y.setCell ⟨B, q * 7 + 3, none⟩ (.bool true)) := by
  have hi := (List.getElem?_eq_some_iff.1 hq).1
  obtain ⟨cur, hB, hl, hset⟩ := hrow.set (j := q) hi { a with e := { a.e with g := true } }
  obtain ⟨_, e, -, hc⟩ := hrow.at q a hq
  cases e
  have hcc : ∀ j v, (itC a)[j]? = some v → cur[q * 7 + j]? = some v := fun j v hv => by rw [← blk_cell hB]; exact hc j v hv
  have hs : splice cur (q * 7) (itC { a with e := { a.e with g := true } }) = cur.setIfInBounds (q * 7 + 3) (.bool true) :=
    splice_one hl (hcc 0 _ rfl) (hcc 1 _ rfl) (hcc 2 _ rfl) (hcc 4 _ rfl) (hcc 5 _ rfl) (hcc 6 _ rfl)
  have hrow' := hset (y.setCell ⟨B, q * 7 + 3, none⟩ (.bool true)) (by rw [hs]; exact blk_set hB _)
  rw [set_gone hu hq rfl] at hrow'
  refine ⟨⟨_, blk_other hm (fun e => hne e.symm), hrow', fun e => ?_, hF, fun b hb' => ?_⟩, (Ch.of_below (F := F) hb).setCell _ _ (fun _ => hFB)⟩
  · simp [Value.ownBlock] at e
    exact hne e
  · simp [Value.ownBlock] at hb'
    subst hb'
    exact hFB
set_option maxHeartbeats 4000000 in
set_option maxRecDepth 20000 in
theorem delete_ref' (w : World) (m : Nat) (I : List It) (S : Tx) (F : Nat → Prop) (h : RefM w m I F) (hR : Ref I S) (hl : I.length < 4294967296) (k : St) (va : Int) (hva : va = if k ∈ S.L then 0 else 121) :
    Calls Try.prog 23 #[ptr m, encS k] w (DelM m I F k va w) := by
  have HKB := Lib.hid (KB.new w k)
  have HFI := Lib.hid (find_it _ m I F (h.later HKB.out.b) hl k)
  have HVA := Lib.hid hva
  have HM := Lib.hid h
  have HR := Lib.hid hR
  clear h hR hva
  by_cases hk : k ∈ S.L
  · have hki := (HR.out.mem k).1 hk
    have hfi : findI I k = (((I.map (·.e.k)).idxOf k : Nat) : Int) := by unfold findI; rw [if_pos hki]
    rw [hfi] at HFI
    have hqi := List.idxOf_lt_length_of_mem hki
    have hqa : ∃ a, I[(I.map (·.e.k)).idxOf k]? = some a ∧ a.e.k = k := by
      have h1 := List.getElem_idxOf hqi
      rw [List.getElem_map] at h1
      exact ⟨_, List.getElem?_eq_getElem (by simpa using hqi), h1⟩
    generalize (I.map (·.e.k)).idxOf k = q at *
    obtain ⟨a, hqa, hak⟩ := hqa
    have HV := Lib.hid (show va = 0 by rw [HVA.out, if_pos hk])
    have HQA := Lib.hid hqa
    have HAK := Lib.hid hak
    have hqn := (List.getElem?_eq_some_iff.1 hqa).1
    have hqb : (q : Int) < (I.length : Int) := by omega
    have hql : (q : Int) < 4294967296 := by omega
    have dq : decide ((q : Int) < 0) = false := decide_eq_false (by omega)
    clear hk hki hfi hqi hqa hak hqn
    go_enter Try.func23, Try.ntmps23
    go_upto_if 10 with (go_at_call 45; with_reducible refine HFI.out.mono ?_; rintro e z ⟨rfl, hb⟩; have HZ := Lib.hid (HKB.out.later hb); clear hb)
    obtain ⟨v, hm, hrow, hne, hFm, hFv⟩ := HM.out.later HZ.out.b
    obtain ⟨B, cap, rfl, -, hcap⟩ := hrow.some (by intro e; have := HQA.out; rw [e] at this; cases this) rfl
    have FIN := Lib.hid (RefM.gone HZ.out.b hm hrow (fun e => hne (by rw [e]; rfl)) hFm (hFv B rfl) HR.out.uniq HQA.out)
    obtain ⟨_, e, -, hc⟩ := hrow.at q a HQA.out
    cases e
    have e3 := hc 3 _ rfl
    obtain ⟨cur, hBB, -, -⟩ := hrow.set (j := q) (by omega) a
    have f3 := blk_free hBB (q * 7 + 3)
    have e0 := blk_cell hm 0
    have b0 : (0 : Int) ≤ (q : Int) := by omega
    clear hm hrow hne hFm hFv hc hBB
    go_wp2
    go_ret
    exact ⟨by rw [HV.out]; rfl, by rw [← HAK.out]; exact FIN.out.1, FIN.out.2⟩
  · have hfi : findI I k = -1 := by unfold findI; rw [if_neg (fun e => hk ((HR.out.mem k).2 e))]
    rw [hfi] at HFI
    have HV := Lib.hid (show va = 121 by rw [HVA.out, if_neg hk])
    have HGN := Lib.hid (goneI_none (I := I) (k := k) (fun e => hk ((HR.out.mem k).2 e)))
    clear hk hfi
    go_enter Try.func23, Try.ntmps23
    go_wp2_with (go_at_call 45; with_reducible refine HFI.out.mono ?_; rintro e z ⟨rfl, hb⟩; have HZ := Lib.hid (HKB.out.later hb); clear hb)
    go_ret
    exact ⟨by rw [HV.out]; rfl, by rw [HGN.out]; exact HM.out.later HZ.out.b, Ch.of_below HZ.out.b⟩
end Go.Proofs.Ytohpablkgfkelaa
namespace Go.Proofs.Ytohpablkgfkelaa
open Go.RowKit Go.Joins
set_option linter.unusedSimpArgs false
set_option linter.unusedVariables false

structure TwoF (w0 z : World) (t m : Nat) (S : Tx) (I : List It) (F G : Nat → Prop) : Prop where
  text : Text z t S F
  ref : RefM z m I G
  apart : ∀ x, F x → ¬ G x
  lo : ∀ x, F x ∨ G x → w0.heap.size ≤ x
  b : Below w0.heap.size w0 z
def Two (w0 z : World) (t m : Nat) (S : Tx) (I : List It) : Prop := ∃ F G, TwoF w0 z t m S I F G
theorem TwoF.later {w0 z z' : World} {t m : Nat} {S : Tx} {I : List It} {F G : Nat → Prop} (h : TwoF w0 z t m S I F G) (b : Below z.heap.size z z') : TwoF w0 z' t m S I F G :=
  ⟨h.text.later b, h.ref.later b, h.apart, h.lo, h.b.trans (b.mono h.b.size)⟩
theorem TwoF.bnd {w0 z : World} {t m : Nat} {S : Tx} {I : List It} {F G : Nat → Prop} (h : TwoF w0 z t m S I F G) : TwoF w0 z t m S I (fun x => F x ∧ x < z.heap.size) (fun x => G x ∧ x < z.heap.size) :=
  ⟨h.text.bnd, h.ref.bnd, fun x hx hy => h.apart x hx.1 hy.1, fun x hx => h.lo x (hx.imp (·.1) (·.1)), h.b⟩
theorem Two.later {w0 z z' : World} {t m : Nat} {S : Tx} {I : List It} (h : Two w0 z t m S I) (b : Below z.heap.size z z') : Two w0 z' t m S I := by
  obtain ⟨F, G, h⟩ := h
  exact ⟨F, G, h.later b⟩
/-- in a round: the act's box besides -/
structure RdF (w0 z : World) (t m box : Nat) (a : ActG) (S : Tx) (I : List It) (F G : Nat → Prop) : Prop where
  two : TwoF w0 z t m S I F G
  nb : ∀ x, F x ∨ G x → x ≠ box
  lob : w0.heap.size ≤ box
  box : z.heap[box]? = some (.cells a.cells 33 (0, 0))
theorem RdF.later {w0 z z' : World} {t m box : Nat} {a : ActG} {S : Tx} {I : List It} {F G : Nat → Prop} (h : RdF w0 z t m box a S I F G) (b : Below z.heap.size z z') : RdF w0 z' t m box a S I F G :=
  ⟨h.two.later b, h.nb, h.lob, (b.block _ (heap_lt h.box)).trans h.box⟩
def Rd (w0 z : World) (t m box : Nat) (a : ActG) (S : Tx) (I : List It) : Prop := ∃ F G, RdF w0 z t m box a S I F G
theorem Rd.later {w0 z z' : World} {t m box : Nat} {a : ActG} {S : Tx} {I : List It} (h : Rd w0 z t m box a S I) (b : Below z.heap.size z z') : Rd w0 z' t m box a S I := by
  obtain ⟨F, G, h⟩ := h
  exact ⟨F, G, h.later b⟩
theorem Rd.drew {w0 z : World} {t m box : Nat} {a : ActG} {S : Tx} {I : List It} (h : Rd w0 z t m box a S I) : Rd w0 z.drew t m box a S I := h.later (Below.refl _ _).drew
theorem Rd.start {w0 z : World} {t m : Nat} {S : Tx} {I : List It} (h : Two w0 z t m S I) (a : ActG) : Rd w0 (z.alloc (.cells a.cells 33)) t m z.heap.size a S I := by
  obtain ⟨F, G, h⟩ := h
  exact ⟨_, _, h.bnd.later ((Below.refl _ _).alloc (Nat.le_refl _) _), fun x hx => (by have : x < z.heap.size := hx.elim (·.2) (·.2); omega), h.b.size, blk_new _ _⟩
theorem Rd.two {w0 z : World} {t m box : Nat} {a : ActG} {S : Tx} {I : List It} (h : Rd w0 z t m box a S I) : Two w0 z t m S I := by
  obtain ⟨F, G, h⟩ := h
  exact ⟨F, G, h.two⟩
theorem Rd.box {w0 z : World} {t m box : Nat} {a : ActG} {S : Tx} {I : List It} (h : Rd w0 z t m box a S I) : z.heap[box]? = some (.cells a.cells 33 (0, 0)) := by
  obtain ⟨F, G, h⟩ := h
  exact h.box
theorem Rd.keep {w0 z : World} {t m box : Nat} {a : ActG} {S : Tx} {I : List It} (h : Rd w0 z t m box a S I) :
    z.cell? ⟨box, 1, none⟩ = some (.int .i64 a.id.1) ∧ z.cell? ⟨box, 2, none⟩ = some (.int .i64 a.id.2) ∧ z.cell? ⟨box, 3, none⟩ = some (.int .i64 a.par.1) ∧ z.cell? ⟨box, 4, none⟩ = some (.int .i64 a.par.2) ∧ z.cell? ⟨box, 5, none⟩ = some (.int .i64 a.side) ∧ z.cell? ⟨box, 6, none⟩ = some (.int .i64 a.ch) :=
  ⟨blk_cell h.box 1, blk_cell h.box 2, blk_cell h.box 3, blk_cell h.box 4, blk_cell h.box 5, blk_cell h.box 6⟩
theorem Rd.keep2 {w0 z : World} {t m box : Nat} {a : ActG} {S : Tx} {I : List It} (h : Rd w0 z t m box a S I) :
    z.cell? ⟨box, 1, none⟩ = some (.int .i64 a.id.1) ∧ z.cell? ⟨box, 2, none⟩ = some (.int .i64 a.id.2) := ⟨blk_cell h.box 1, blk_cell h.box 2⟩
/-- the text turned -/
theorem RdF.turn1 {w0 z z' : World} {t m box : Nat} {a : ActG} {S S' : Tx} {I : List It} {F G : Nat → Prop} (h : RdF w0 z t m box a S I F G) (hT : Text z' t S' (fun x => F x ∨ z.heap.size ≤ x)) (c : Ch F z z') : Rd w0 z' t m box a S' I := by
  have hb := h.two.b.size
  have hbx := heap_lt h.box
  refine ⟨_, _, ⟨hT, h.two.ref.bnd.ch c (fun x hx hf => h.two.apart x hf hx.1), fun x hx hy => hx.elim (fun e => h.two.apart x e hy.1) (fun e => by have := hy.2; omega), fun x hx => ?_, Ch.deep h.two.b c (fun x hx => h.two.lo x (.inl hx))⟩, fun x hx => ?_, h.lob, c.at h.box (fun e => h.nb _ (.inl e) rfl)⟩
  · rcases hx with (hx | hx) | hx
    · exact h.two.lo x (.inl hx)
    · omega
    · exact h.two.lo x (.inr hx.1)
  · rcases hx with (hx | hx) | hx
    · exact h.nb x (.inl hx)
    · omega
    · exact h.nb x (.inr hx.1)
/-- the document's turned -/
theorem RdF.turn2 {w0 z z' : World} {t m box : Nat} {a : ActG} {S : Tx} {I I' : List It} {F G : Nat → Prop} (h : RdF w0 z t m box a S I F G) (hT : RefM z' m I' (fun x => G x ∨ z.heap.size ≤ x)) (c : Ch G z z') : Rd w0 z' t m box a S I' := by
  have hb := h.two.b.size
  have hbx := heap_lt h.box
  refine ⟨_, _, ⟨h.two.text.bnd.ch c (fun x hx hf => h.two.apart x hx.1 hf), hT, fun x hx hy => hy.elim (fun e => h.two.apart x hx.1 e) (fun e => by have := hx.2; omega), fun x hx => ?_, Ch.deep h.two.b c (fun x hx => h.two.lo x (.inr hx))⟩, fun x hx => ?_, h.lob, c.at h.box (fun e => h.nb _ (.inr e) rfl)⟩
  · rcases hx with hx | (hx | hx)
    · exact h.two.lo x (.inl hx.1)
    · exact h.two.lo x (.inr hx)
    · omega
  · rcases hx with hx | (hx | hx)
    · exact h.nb x (.inl hx.1)
    · exact h.nb x (.inr hx)
    · omega
theorem Rd.ins1 {w0 z : World} {t m box : Nat} {a : ActG} {S : Tx} {I : List It} (hl : S.L.length + 1 < 4294967296) (h : Rd w0 z t m box a S I) :
    Calls Try.prog 13 #[ptr t, encS a.id, encS a.par, .int .i64 a.side, .int .i64 a.ch] z fun e z' => e = .returned (.int .i64 (S.insE a.id a.par a.side)) ∧ ∃ S', Stp S a.id a.par a.side a.ch S' ∧ Rd w0 z' t m box a S' I := by
  obtain ⟨F, G, h⟩ := h
  refine (insert_text z t S F h.two.text hl a.id a.par a.side a.ch).mono ?_
  rintro e z' ⟨rfl, S', hs, hT, hc⟩
  exact ⟨rfl, S', hs, h.turn1 hT hc⟩
theorem Rd.ins2 {w0 z : World} {t m box : Nat} {a : ActG} {S S1 : Tx} {I : List It} (hR : Ref I S) (hl : I.length + 1 < 4294967296) (h : Rd w0 z t m box a S1 I) :
    Calls Try.prog 22 #[ptr m, encS a.id, encS a.par, .int .i64 a.side, .int .i64 a.ch] z fun e z' => e = .returned (.int .i64 (S.insE a.id a.par a.side)) ∧ ∃ I', (¬ InsOk S a.id a.par a.side ∧ I' = I ∨ InsOk S a.id a.par a.side ∧ I' = I ++ [⟨⟨a.id, a.ch, false⟩, a.par, a.side⟩]) ∧ Rd w0 z' t m box a S1 I' := by
  obtain ⟨F, G, h⟩ := h
  refine (insert_ref' z m I S G h.two.ref hR hl a.id a.par a.side a.ch _ rfl).mono ?_
  rintro e z' ⟨rfl, I', hs, hT, hc⟩
  exact ⟨rfl, I', hs, h.turn2 hT hc⟩
theorem ins_both {S S' : Tx} {I I' : List It} {x p : St} {s c : Int} (hR : Ref I S) (h1 : Stp S x p s c S') (h2 : ¬ InsOk S x p s ∧ I' = I ∨ InsOk S x p s ∧ I' = I ++ [⟨⟨x, c, false⟩, p, s⟩]) : Ref I' S' ∧ I'.length ≤ I.length + 1 := by
  rcases h2 with ⟨hn, rfl⟩ | ⟨hk, rfl⟩
  · rw [stp_no h1 hn]
    exact ⟨hR, by omega⟩
  · exact ⟨hR.ins hk h1, by simp⟩
theorem Rd.del1 {w0 z : World} {t m box : Nat} {a : ActG} {S : Tx} {I : List It} (h : Rd w0 z t m box a S I) :
    Calls Try.prog 14 #[ptr t, encS a.id] z fun e z' => e = .returned (.int .i64 (if a.id ∈ S.L then 0 else 121)) ∧ Rd w0 z' t m box a (S.dele a.id) I := by
  obtain ⟨F, G, h⟩ := h
  refine (delete_text z t S F h.two.text a.id).mono ?_
  rintro e z' ⟨rfl, hT, hc⟩
  exact ⟨rfl, h.turn1 (hT.mono (fun x => .inl)) hc⟩
theorem Rd.del2 {w0 z : World} {t m box : Nat} {a : ActG} {S S1 : Tx} {I : List It} (hR : Ref I S) (hl : I.length < 4294967296) (h : Rd w0 z t m box a S1 I) :
    Calls Try.prog 23 #[ptr m, encS a.id] z fun e z' => e = .returned (.int .i64 (if a.id ∈ S.L then 0 else 121)) ∧ Rd w0 z' t m box a S1 (goneI I a.id) := by
  obtain ⟨F, G, h⟩ := h
  refine (delete_ref' z m I S G h.two.ref hR hl a.id _ rfl).mono ?_
  rintro e z' ⟨rfl, hT, hc⟩
  exact ⟨rfl, h.turn2 (hT.mono (fun x => .inl)) hc⟩
theorem del_both {S : Tx} {I : List It} {x : St} (hR : Ref I S) : Ref (goneI I x) (S.dele x) ∧ (goneI I x).length = I.length := by
  refine ⟨?_, by simp [goneI]⟩
  unfold Tx.dele
  by_cases h : x ∈ S.L
  · rw [if_pos h]; exact hR.del h
  · rw [if_neg h, goneI_none (fun e => h ((hR.mem x).2 e))]; exact hR
theorem at_el (S : Tx) (n : Int) : ∃ x : El, atTV S n = .agg #[.int .i64 x.k.1, .int .i64 x.k.2, .int .i64 x.c, .bool x.g] := by
  unfold atTV
  split
  · exact ⟨S.el _, rfl⟩
  · exact ⟨⟨(0, 0), 0, false⟩, rfl⟩
theorem two_start {w w1 : World} {t : Nat} (hT : Text w1 t Tx.new (fun x => w.heap.size ≤ x ∧ x < w1.heap.size)) (hB : Below w.heap.size w w1) : Two w (w1.alloc (.cells #[.slice none 0 0] 59)) t w1.heap.size Tx.new [] :=
  ⟨_, fun x => x = w1.heap.size, hT.later ((Below.refl _ _).alloc (Nat.le_refl _) _), ⟨.slice none 0 0, blk_new _ _, World.ownsRow_nil _ _ _ _, fun h => (by cases h), rfl, fun b hb => (by cases hb)⟩, fun x hx e => (by have := hx.2; omega), fun x hx => hx.elim (·.1) (fun e => by rw [e]; exact hB.size), hB.alloc hB.size _⟩
end Go.Proofs.Ytohpablkgfkelaa
