/- A STORE OF OPERATIONS: New, All, Known, Pending, Missing; on no store. -/
import Derived.Test.YtiamohfpohjdpaaDoorCAdd
namespace Go.Proofs.YtiamohfpohjdpaaDoor
open Go.RowKit Go.Joins
set_option linter.unusedSimpArgs false
set_option linter.unusedVariables false
open Classical

theorem storeC_new (w : World) : StoreIs (((w.alloc (.map #[] 0)).alloc (.map #[] 0)).alloc (.cells (stC (.slice none 0 0) (.slice none 0 0) w.heap.size (w.heap.size + 1) V8.zero) 55)) (w.heap.size + 2) [] [] (fun x => w.heap.size ≤ x) := by
  have b1 : Below (w.alloc (.map #[] 0)).heap.size (w.alloc (.map #[] 0)) (((w.alloc (.map #[] 0)).alloc (.map #[] 0)).alloc (.cells (stC (.slice none 0 0) (.slice none 0 0) w.heap.size (w.heap.size + 1) V8.zero) 55)) := ((Below.refl _ _).alloc (Nat.le_refl _) _).alloc (by simp) _
  have b2 : Below ((w.alloc (.map #[] 0)).alloc (.map #[] 0)).heap.size ((w.alloc (.map #[] 0)).alloc (.map #[] 0)) (((w.alloc (.map #[] 0)).alloc (.map #[] 0)).alloc (.cells (stC (.slice none 0 0) (.slice none 0 0) w.heap.size (w.heap.size + 1) V8.zero) 55)) := (Below.refl _ _).alloc (Nat.le_refl _) _
  have m1 := (MapIs.made w encS)
  have m2 := (MapIs.made (w.alloc (.map #[] 0)) encS)
  have e1 : (w.alloc (.map #[] 0)).heap.size = w.heap.size + 1 := by simp
  have e2 : ((w.alloc (.map #[] 0)).alloc (.map #[] 0)).heap.size = w.heap.size + 2 := by simp
  rw [e1] at m2
  refine ⟨w.heap.size, w.heap.size + 1, .slice none 0 0, .slice none 0 0, ?_, OwnO.nil _ _, OwnO.nil _ _, ?_, ⟨0, ?_⟩, ⟨by omega, by omega, by omega⟩, fun b hb => (by cases hb), fun b hb => (by cases hb), ⟨by omega, by omega, by omega⟩⟩
  · have := blk_new ((w.alloc (.map #[] 0)).alloc (.map #[] 0)) (.cells (stC (.slice none 0 0) (.slice none 0 0) w.heap.size (w.heap.size + 1) V8.zero) 55)
    rw [e2] at this
    exact this
  · have := m1.ch (Ch.of_below (F := fun _ => False) b1) id
    rw [List.append_nil, thF_nil]
    exact this
  · have := m2.ch (Ch.of_below (F := fun _ => False) b2) id
    rw [thF_nil]
    exact this
theorem results_cell {fn : Func} {t : Tmp} {ty : TypeId} {P : Program} {b : Nat} {w : World} {v : Value} {tmps : Array Value} (h : fn.results = #[.cell t ty]) (ht : tmps.getD t undef = ptr b) (hr : (Instr.loadAt ty (ptr b)).run P w = .ok v w) : (results fn tmps).run P w = .ok v w := by
  simp only [Instr.loadAt, Instr.sureAddr, Sem.run_bind, Sem.run_pure, Result.andThen] at hr
  have ht2 : tmps[t]?.getD undef = ptr b := by simpa using ht
  simp [results, h, ht2, hr, asAddr, Result.andThen]
theorem newS_any (w : World) : Calls Tryd.prog 8 #[] w fun e w' => e = .returned (ptr (w.heap.size + 2)) ∧ StoreIs w' (w.heap.size + 2) [] [] (fun x => w.heap.size ≤ x) ∧ Below w.heap.size w w' := by
  have hmm := @run_makeMap Tryd.prog
  go_enter Tryd.func8, Tryd.ntmps8
  go_wp2
  go_ret
  exact ⟨rfl, storeC_new w, (((Below.refl _ w).alloc (Nat.le_refl _) _).alloc (by simp) _).alloc (by simp; omega) _⟩
theorem all_any (w : World) (s : Nat) (A W : List OpG) (F : Nat → Prop) (h : StoreIs w s A W F) (hl : A.length < 4294967296) : Calls Tryd.prog 11 #[ptr s] w fun e w' => ∃ v, e = .returned v ∧ OwnO w' w.heap.size v A ∧ Below w.heap.size w w' := by
  obtain ⟨tb, db, va, vw, hG⟩ := h
  obtain ⟨ao, c, rfl, h0, hat⟩ := hG.all.at'
  have HC := Lib.hid (fun z (hz : Below w.heap.size w z) => clone_list z ao c A (hat.below hz) hl h0)
  have t0 := blk_cell hG.top 0
  clear hG hat h0
  go_enter Tryd.func11, Tryd.ntmps11
  go_wp2_with fail
  with_reducible refine (HC.out _ (by first | exact Below.refl _ _ | skip)).mono ?_
  rintro e y ⟨v, rfl, h1, h2⟩
  have H := Lib.hid (And.intro h1 h2)
  clear h1 h2
  go_wp2
  go_ret
  exact ⟨_, rfl, H.out.1, H.out.2⟩
theorem pending_any (w : World) (s : Nat) (A W : List OpG) (F : Nat → Prop) (h : StoreIs w s A W F) (hl : W.length < 4294967296) : Calls Tryd.prog 13 #[ptr s] w fun e w' => ∃ v, e = .returned v ∧ OwnO w' w.heap.size v W ∧ Below w.heap.size w w' := by
  obtain ⟨tb, db, va, vw, hG⟩ := h
  obtain ⟨ao, c, rfl, h0, hat⟩ := hG.wait.at'
  have HC := Lib.hid (fun z (hz : Below w.heap.size w z) => clone_list z ao c W (hat.below hz) hl h0)
  have t0 := blk_cell hG.top 11
  clear hG hat h0
  go_enter Tryd.func13, Tryd.ntmps13
  go_wp2_with fail
  with_reducible refine (HC.out _ (by first | exact Below.refl _ _ | skip)).mono ?_
  rintro e y ⟨v, rfl, h1, h2⟩
  have H := Lib.hid (And.intro h1 h2)
  clear h1 h2
  go_wp2
  go_ret
  exact ⟨_, rfl, H.out.1, H.out.2⟩
theorem knownS_any (w : World) (s : Nat) (A W : List OpG) (F : Nat → Prop) (h : StoreIs w s A W F) : Calls Tryd.prog 12 #[ptr s] w fun e w' => e = .returned (knownV A).val ∧ Below w.heap.size w w' := by
  obtain ⟨tb, db, va, vw, hG⟩ := h
  obtain ⟨K, hK⟩ : ∃ K, knownV A = K := ⟨_, rfl⟩
  rw [hK] at hG
  rw [hK]
  have ht := hG.top
  have HT := Lib.hid ht
  clear hG hK ht
  go_enter Tryd.func12, Tryd.ntmps12
  go_upto_region 1 with fail
  have hb := (Below.refl w.heap.size w).alloc (Nat.le_refl _) (.cells (V8.rowV V8.zero).toArray 33)
  have ht := (hb.block _ (heap_lt HT.out)).trans HT.out
  have k0 := blk_cell ht (3 + 0)
  have k1 := blk_cell ht (3 + 1)
  have k2 := blk_cell ht (3 + 2)
  have k3 := blk_cell ht (3 + 3)
  have k4 := blk_cell ht (3 + 4)
  have k5 := blk_cell ht (3 + 5)
  have k6 := blk_cell ht (3 + 6)
  have k7 := blk_cell ht (3 + 7)
  clear hb ht
  simp only [Nat.reduceAdd, V8.zero] at k0 k1 k2 k3 k4 k5 k6 k7
  go_wp2_with (refine wpList_store_fresh rfl (.tmp 2) (.tmp 9) 33 rfl (w.heap.size) _ _ rfl (by simp) rfl (by kernel_rfl) (by kernel_rfl) (by kernel_rfl) ?_)
  refine bodyPost_ret (results_cell (b := w.heap.size) rfl rfl (run_loadAt_new w 33 _ _ _ Tryd.underlying33 (by kernel_rfl))) rfl ?_
  exact ⟨rfl, (Below.refl _ _).alloc (Nat.le_refl _) _⟩
/-! ### on no store -/
theorem addnil_any (w : World) (o : OpG) : Calls Tryd.prog 10 #[.pointer none, o.val] w fun e w' => e = .returned (.tuple #[.slice none 0 0, .int .i64 1]) ∧ Below w.heap.size w w' := by
  refine callsIn_wide.1 (callsIn_of_wp_marks (n := 3) (F := Fence.wide) Tryd.func10 rfl trivial (wpIn_wide.2 ?_) rfl)
  simp only [Tryd.ntmps10, List.size_toArray, List.length_cons, List.length_nil, Nat.reduceAdd, Nat.reduceSub, Array.replicate_succ, Array.replicate_zero, List.push_toArray, List.append_toArray, List.nil_append, List.cons_append]
  go_upto_region 1 with fail
  refine wp_let' (fun y => Below w.heap.size w y ∧ y.cell? ⟨w.heap.size, 0, none⟩ = some (.pointer none)) ⟨((Below.refl _ _).alloc (Nat.le_refl _) _).alloc (by simp) _, blk_cell (blk_alloc (blk_new _ _)) 0⟩ (fun y hy => ?_)
  have b0 := hy.2
  have HY := Lib.hid hy
  clear hy
  go_wp2_with fail
  refine marks_ret (v := .tuple #[.slice none 0 0, .int .i64 1]) (by kernel_rfl) rfl ?_
  exact ⟨rfl, HY.out.1⟩
theorem allnil_any (w : World) : Calls Tryd.prog 11 #[.pointer none] w fun e w' => e = .returned (.slice none 0 0) ∧ w' = w := by
  go_enter Tryd.func11, Tryd.ntmps11
  go_wp2
  go_ret
  try exact ⟨rfl, rfl⟩
theorem pendingnil_any (w : World) : Calls Tryd.prog 13 #[.pointer none] w fun e w' => e = .returned (.slice none 0 0) ∧ w' = w := by
  go_enter Tryd.func13, Tryd.ntmps13
  go_wp2
  go_ret
  try exact ⟨rfl, rfl⟩
theorem bldV0 (w : World) : (Instr.build 33 #[]).run Tryd.prog w = .ok (V8.val V8.zero) w := run_build w 33 _ _ (by kernel_rfl)
theorem knownnil_any (w : World) : Calls Tryd.prog 12 #[.pointer none] w fun e w' => e = .returned (V8.val V8.zero) ∧ Below w.heap.size w w' := by
  have hbd := bldV0
  simp only [V8.zero] at hbd
  unfold V8.zero
  go_enter Tryd.func12, Tryd.ntmps12
  go_upto_region 2 with fail
  go_wp2_with (refine wpList_store_fresh rfl (.tmp 2) (.tmp 5) 33 rfl (w.heap.size) _ _ rfl (by simp) rfl (by kernel_rfl) (by kernel_rfl) (by kernel_rfl) ?_)
  refine bodyPost_ret (results_cell (b := w.heap.size) rfl rfl (run_loadAt_new w 33 _ _ _ Tryd.underlying33 (by kernel_rfl))) rfl ?_
  exact ⟨rfl, (Below.refl _ _).alloc (Nat.le_refl _) _⟩
theorem missingnil_any (w : World) (v : V8) (n : Int) : Calls Tryd.prog 18 #[.pointer none, v.val, .int .i64 n] w fun e w' => e = .returned (.slice none 0 0) ∧ Below w.heap.size w w' := by
  go_enter Tryd.func18, Tryd.ntmps18
  go_wp2
  go_ret
  first
  | exact ⟨rfl, (Below.refl _ _).alloc (Nat.le_refl _) _⟩
  | exact (Below.refl _ _).alloc (Nat.le_refl _) _
/-! ### what somebody lacks -/
def missL (v : V8) (n : Int) (L : List OpG) : List OpG := (L.filter fun x => !v.has x.n x.r).take n.toNat
theorem missL_snoc_has {v : V8} {n : Int} {L : List OpG} {x : OpG} (h : v.has x.n x.r = true) : missL v n (L ++ [x]) = missL v n L := by unfold missL; rw [List.filter_append]; simp [h]
theorem missL_snoc_lacks {v : V8} {n : Int} {L : List OpG} {x : OpG} (h : v.has x.n x.r = false) (hl : ((missL v n L).length : Int) < n) : missL v n (L ++ [x]) = missL v n L ++ [x] := by
  unfold missL at *
  rw [List.length_take] at hl
  have h1 : (L.filter fun x => !v.has x.n x.r).length < n.toNat := by omega
  rw [List.filter_append]
  simp only [List.filter_cons, h, Bool.not_false, if_true, List.filter_nil]
  rw [List.take_of_length_le (by simp; omega), List.take_of_length_le (Nat.le_of_lt h1)]
theorem missL_full {v : V8} {n : Int} {L : List OpG} {q : Nat} (hl : n ≤ ((missL v n (L.take q)).length : Int)) : missL v n (L.take q) = missL v n L := by
  conv => rhs; rw [← List.take_append_drop q L]
  unfold missL at *
  rw [List.length_take] at hl
  have h1 : n.toNat ≤ ((L.take q).filter fun x => !v.has x.n x.r).length := by omega
  rw [List.filter_append, List.take_append_of_le_length h1]
theorem missL_le (v : V8) (n : Int) (L : List OpG) : (missL v n L).length ≤ L.length := by
  unfold missL
  rw [List.length_take]
  have := List.length_filter_le (fun x => !v.has x.n x.r) L
  omega
/-- Missing's boxes -/
structure MB (w : World) (v : V8) (y : World) : Prop where
  b : Below w.heap.size w y
  vb : y.heap[w.heap.size]? = some (.cells (V8.rowV v).toArray 33 (0, 0))
theorem MB.later {w : World} {v : V8} {y z : World} (h : MB w v y) (b : Below y.heap.size y z) : MB w v z := ⟨h.b.trans (b.mono h.b.size), (b.block _ (heap_lt h.vb)).trans h.vb⟩
theorem MB.grow {w : World} {v : V8} {y z : World} {r : Option Nat} (h : MB w v y) (g : y.grownBy z r) (hr : ∀ b, r = some b → w.heap.size + 1 ≤ b) : MB w v z :=
  ⟨((Ch.of_below (F := fun _ => False) h.b).trans (Ch.of_grown g) (fun x hx e => by have := hr x e.symm; omega)).none, (Ch.of_grown g).at h.vb (fun e => by have := hr _ e.symm; omega)⟩
set_option maxHeartbeats 8000000 in
set_option maxRecDepth 100000 in
theorem missing_any (w : World) (s : Nat) (A W : List OpG) (F : Nat → Prop) (h : StoreIs w s A W F) (hl : A.length < 4294967295) (v : V8) (n : Int) : Calls Tryd.prog 18 #[ptr s, v.val, .int .i64 n] w fun e w' => ∃ u, e = .returned u ∧ OwnO w' w.heap.size u (missL v n A) ∧ Below w.heap.size w w' := by
  obtain ⟨tb, db, va, vw, hG⟩ := h
  obtain ⟨ao, c, rfl, h0, hat⟩ := hG.all.at'
  have HAT := Lib.hid hat
  have HT := Lib.hid hG.top
  have HL := Lib.hid hl
  clear hG hat h0 hl
  go_enter Tryd.func18, Tryd.ntmps18
  go_upto_region 1 with fail
  refine wp_let' (MB w v) ⟨(Below.refl _ _).alloc (Nat.le_refl _) _, blk_new _ _⟩ (fun y hy => ?_)
  have HY := Lib.hid hy
  have t0 := blk_cell ((hy.b.block _ (heap_lt HT.out)).trans HT.out) 0
  clear hy
  go_wp2_with fail
  go_loopw [7, 9, 17] (fun vo vb vi wr => ∃ (q : Nat) (u : Value), vi = .int .i64 q ∧ q ≤ A.length ∧ vo = u ∧ OwnO wr (w.heap.size + 1) u (missL v n (A.take q)) ∧ MB w v wr) (fun _ _ vi _ => A.length - (intOf vi).toNat)
  case atStart => exact ⟨0, _, rfl, by omega, rfl, (by simpa [missL] using OwnO.nil _ _), HY.out⟩
  case round =>
    obtain ⟨q, u, rfl, hq, rfl, hown, hmb⟩ := hrel
    have hAl := HL.out
    obtain ⟨ao2, c2, rfl, h02, hat2⟩ := hown.at'
    have HO := Lib.hid (And.intro hown hmb)
    obtain ⟨m, hm⟩ : ∃ m, (missL v n (A.take q)).length = m := ⟨_, rfl⟩
    have HM := Lib.hid hm
    have hmq : m ≤ A.length := by rw [← hm]; exact Nat.le_trans (missL_le _ _ _) (by rw [List.length_take]; omega)
    have HMQ := Lib.hid hmq
    rw [hm] at HO
    simp only [hm]
    clear hown hmb hm hat2 h02 t0 HY
    by_cases hql : q < A.length
    · obtain ⟨o, ho⟩ : ∃ o, A[q]? = some o := ⟨_, List.getElem?_eq_getElem hql⟩
      obtain ⟨b, off, rfl, hbw, hc⟩ := (HAT.out.below HO.out.2.b) q o ho
      have HOG := Lib.hid ho
      have HC := Lib.hid hc
      have b0 : (0 : Int) ≤ (q : Int) := by omega
      have b1 : (q : Int) < (A.length : Int) := by omega
      clear hc hbw ho
      go_upto_region 7 with (first | refine wpList_load_at (.tmp 19) 39 rfl rfl b (off + q * 26) o.cells rfl Tryd.underlying39 (by kernel_rfl) HC.out ?_ | refine wpList_store_fresh rfl (.tmp 9) (.tmp 20) 39 rfl (wr.heap.size) _ _ rfl (by simp) rfl (by kernel_rfl) (by kernel_rfl) (by kernel_rfl) ?_)
      refine wp_let' (OpBox o wr) (opBox_new o wr) (fun y1 hy1 => ?_)
      have HX1 := Lib.hid hy1
      have HO1 := Lib.hid (HO.out.1.later hy1.1)
      have HB1 := Lib.hid (HO.out.2.later hy1.1)
      have hwr := hy1.1.size
      have HWR := Lib.hid (show w.heap.size + 1 ≤ wr.heap.size from heap_lt HO.out.2.vb)
      simp only [Act.put, List.setIfInBounds_toArray, List.set_cons_zero, List.set_cons_succ]
      clear hy1 HC b0 b1 HO
      by_cases hnm : n ≤ (m : Int)
      · have d1 : decide (n ≤ (m : Int)) = true := decide_eq_true hnm
        have HF := Lib.hid (show missL v n (A.take q) = missL v n A from missL_full (by rw [HM.out]; exact hnm))
        clear hnm
        go_wp2_with fail
        go_ret
        refine ⟨_, rfl, ?_, HB1.out.b⟩
        rw [← HF.out]
        exact HO1.out.base (fun b hb => by have := (World.ownsRow.lt HO1.out b hb).1; omega)
      · have d1 : decide (n ≤ (m : Int)) = false := decide_eq_false hnm
        have HNM := Lib.hid (show (m : Int) < n by omega)
        clear hnm
        go_upto_region 8 with fail
        have HH := Lib.hid (has_any v o.n o.r y1)
        have c0 : y1.cell? ⟨wr.heap.size, 0, none⟩ = some (.int .i64 o.n) := blk_cell HX1.out.2 0
        have c1 : y1.cell? ⟨wr.heap.size, 1, none⟩ = some (.int .i64 o.r) := blk_cell HX1.out.2 1
        have k0 : y1.cell? ⟨w.heap.size, 0, none⟩ = some (.int .i64 v.x0) := blk_cell HB1.out.vb 0
        have k1 : y1.cell? ⟨w.heap.size, 1, none⟩ = some (.int .i64 v.x1) := blk_cell HB1.out.vb 1
        have k2 : y1.cell? ⟨w.heap.size, 2, none⟩ = some (.int .i64 v.x2) := blk_cell HB1.out.vb 2
        have k3 : y1.cell? ⟨w.heap.size, 3, none⟩ = some (.int .i64 v.x3) := blk_cell HB1.out.vb 3
        have k4 : y1.cell? ⟨w.heap.size, 4, none⟩ = some (.int .i64 v.x4) := blk_cell HB1.out.vb 4
        have k5 : y1.cell? ⟨w.heap.size, 5, none⟩ = some (.int .i64 v.x5) := blk_cell HB1.out.vb 5
        have k6 : y1.cell? ⟨w.heap.size, 6, none⟩ = some (.int .i64 v.x6) := blk_cell HB1.out.vb 6
        have k7 : y1.cell? ⟨w.heap.size, 7, none⟩ = some (.int .i64 v.x7) := blk_cell HB1.out.vb 7
        have HTK := Lib.hid (take_snoc HOG.out)
        cases hb : v.has o.n o.r with
        | true =>
          rw [hb] at HH
          have HS := Lib.hid (missL_snoc_has (v := v) (n := n) (L := A.take q) hb)
          clear hb
          go_wp2_with (go_at_call 37; with_reducible refine HH.out.mono ?_; rintro e y2 ⟨rfl, hb⟩; have HB2 := Lib.hid hb; clear hb)
          go_roundw
          case rel => exact ⟨q + 1, _, by go_num, by omega, rfl, by rw [HTK.out, HS.out]; exact HO1.out.later HB2.out, HB1.out.later HB2.out⟩
          case measure =>
            have hw : IntKind.i64.wrap ((q : Int) + 1) = (q : Int) + 1 := by rw [IntKind.wrap_i64]; omega
            simp [intOf]; omega
        | false =>
          rw [hb] at HH
          have HS := Lib.hid (missL_snoc_lacks (v := v) (n := n) (L := A.take q) hb (by rw [HM.out]; exact HNM.out))
          clear hb
          have hbs := run_bsO o
          go_wp2_with (first | (go_at_call 37; with_reducible refine HH.out.mono ?_; rintro e y2 ⟨rfl, hb⟩; have HB2 := Lib.hid hb; clear hb) | (refine wpList_load_whole (.tmp 9) 39 rfl rfl wr.heap.size o.cells rfl Tryd.underlying39 (by kernel_rfl) ((HB2.out.block _ (heap_lt HX1.out.2)).trans HX1.out.2) ?_) | (refine wpList_appO rfl (.tmp 30) (.tmp 32) rfl (w.heap.size + 1) (.slice ao2 m c2) (missL v n (A.take q)) [o] rfl ((HO1.out.later HB2.out).later ((Below.refl _ _).alloc (Nat.le_refl _) _)) (some ⟨y2.heap.size, 0, none⟩) 1 rfl (fun e => by cases e) (blk_one (blk_new _ _)) (by rw [HM.out]; have := HL.out; have := HMQ.out; simp; omega) (by have := HB2.out.size; have := HWR.out; simp; omega) ?_; intro v' w' h1 h2; have HAP := Lib.hid (And.intro h1 h2); clear h1 h2))
          go_roundw
          case rel =>
            refine ⟨q + 1, _, by go_num, by omega, rfl, by rw [HTK.out, HS.out]; exact HAP.out.1, ?_⟩
            exact ((HB1.out.later HB2.out).later ((Below.refl _ _).alloc (Nat.le_refl _) _)).grow HAP.out.2 (fun b hb => (World.ownsRow.lt HO1.out b hb).1)
          case measure => simp [intOf]; omega
    · have hqe : q = A.length := by omega
      subst hqe
      have dlt : decide ((A.length : Int) < (A.length : Int)) = false := by simp
      go_wp2_with fail
      go_ret
      refine ⟨_, rfl, ?_, HO.out.2.b⟩
      have h1 := HO.out.1
      rw [List.take_length] at h1
      exact h1.base (fun b hb => by have := (World.ownsRow.lt h1 b hb).1; omega)
end Go.Proofs.YtiamohfpohjdpaaDoor
