/- A TEXT IN MEMORY: place: where in the row a new one stands. -/
import Derived.Test.YtohpablkgfkelaaFTextAll
namespace Go.Proofs.Ytohpablkgfkelaa
open Go.RowKit Go.Joins
set_option linter.unusedSimpArgs false
set_option linter.unusedVariables false

theorem place_mid {A B : List St} {z : St} {L : List St} (h : L = A ++ z :: B) (hn : L.Nodup) : placeV L z = A.length := by
  subst h
  have hz : z ∉ A := fun hm => (List.nodup_append.1 hn).2.2 z hm z (by simp) rfl
  unfold placeV
  rw [if_pos (by simp), List.idxOf_append, if_neg hz]
  simp
/-- place's boxes -/
structure PB (w : World) (t : Nat) (p : St) (s : Int) (x : World) : Prop where
  b : Below w.heap.size w x
  tb : x.heap[w.heap.size]? = some (.cells #[ptr t] 24 (0, 0))
  sb : x.heap[w.heap.size + 1]? = some (.cells #[.int .i64 p.1, .int .i64 p.2, .int .i64 s] 77 (0, 0))
theorem PB.new (w : World) (t : Nat) (p : St) (s : Int) : PB w t p s ((w.alloc (.cells #[ptr t] 24)).alloc (.cells #[.int .i64 p.1, .int .i64 p.2, .int .i64 s] 77)) :=
  ⟨((Below.refl _ _).alloc (Nat.le_refl _) _).alloc (by simp) _, blk_alloc (blk_new _ _), blk_at _ _ _ (by simp)⟩
theorem PB.later {w x y : World} {t : Nat} {p : St} {s : Int} (h : PB w t p s x) (b : Below x.heap.size x y) : PB w t p s y :=
  ⟨h.b.trans (b.mono h.b.size), (b.block _ (heap_lt h.tb)).trans h.tb, (b.block _ (heap_lt h.sb)).trans h.sb⟩
set_option maxHeartbeats 2000000 in
set_option maxRecDepth 20000 in
theorem place_any' (w : World) (t : Nat) (S : Tx) (F : Nat → Prop) (h : Text w t S F) (p : St) (s : Int) (i : Nat) (hi : i ≤ (S.K p s).length) (hp : Spot S.L p s) (A B : List St) (hP : Put S.K S.L p s i A B) :
    Calls Try.prog 37 #[ptr t, encP (p, s), .int .i64 i] w fun e w' => e = .returned (.int .i64 A.length) ∧ Below w.heap.size w w' := by
  have hok := h.ok
  have hbd := h.bound
  have hAL : A.length ≤ S.L.length := by rw [hP.eq, List.length_append]; omega
  have H0 := Lib.hid h
  obtain ⟨kb, cb, gb, r, sl, F0, hT, -⟩ := h
  have HT := Lib.hid hT
  have HP := Lib.hid hP
  have HOK := Lib.hid hok
  clear hT hP hok
  rcases Nat.eq_zero_or_pos i with rfl | hpos
  · by_cases h1 : s = 1
    · obtain ⟨z, B', D, hB, hF⟩ := HP.out.c2 rfl h1
      have hpl : placeV S.L z = A.length := place_mid (B := B') (by rw [HP.out.eq, hB]) HOK.out.nodup
      have hpm : p ∈ S.L := by
        rcases hp with ⟨e, _⟩ | ⟨_, e⟩
        · omega
        · exact e
      have HF := Lib.hid hF
      have HPL := Lib.hid hpl
      have HPM := Lib.hid hpm
      subst h1
      clear hB hF hpl hpm hp
      go_enter Try.func37, Try.ntmps37
      go_upto_region 4 with fail
      refine wp_let (PB w t p 1) (PB.new w t p 1) (fun x hx => ?_)
      have HX := Lib.hid hx
      have t0 := blk_cell hx.tb 0
      have s0 := blk_cell hx.sb 0
      have s1 := blk_cell hx.sb 1
      have s2 := blk_cell hx.sb 2
      clear hx
      have HE := Lib.hid (first_any x t S F (H0.out.later HX.out.b) p HPM.out z D HF.out)
      go_wp2_with (first | (go_at_call 57; with_reducible refine HE.out.mono ?_; rintro e y ⟨rfl, hb⟩; have HB := Lib.hid hb; have HCL := Lib.hid (show Calls Try.prog 55 #[encS z, ptr w.heap.size] y fun e w' => e = .returned (.int .i64 A.length) ∧ Below y.heap.size y w' by rw [← HPL.out]; exact at_clo y t _ S F (H0.out.later (HX.out.later HB.out).b) (HX.out.later HB.out).tb z); clear hb) | (go_at_call 55; with_reducible refine HCL.out.mono ?_; rintro e y2 ⟨rfl, hb⟩; have HB2 := Lib.hid hb; clear hb))
      go_ret
      exact ⟨rfl, ((HX.out.later HB.out).later HB2.out).b⟩
    · have d1 : (s == 1) = false := beq_eq_false_iff_ne.2 h1
      have hgs := run_stGuard
      by_cases h0 : p = (0, 0)
      · have hA := HP.out.c3 rfl h0
        subst hA
        have heq := fun w => st_eq (a := p) (b := (0, 0)) (decide_eq_true h0) w
        clear h0 h1 hp
        go_enter Try.func37, Try.ntmps37
        go_upto_region 4 with fail
        refine wp_let (PB w t p s) (PB.new w t p s) (fun x hx => ?_)
        have HX := Lib.hid hx
        have s0 := blk_cell hx.sb 0
        have s1 := blk_cell hx.sb 1
        have s2 := blk_cell hx.sb 2
        clear hx
        go_wp2
        go_ret
        exact ⟨rfl, HX.out.b⟩
      · have hs2 : s = 2 := by
          rcases hp with ⟨e, _⟩ | ⟨e, _⟩
          · exact e
          · omega
        obtain ⟨A', hA⟩ := HP.out.c4 rfl hs2 h0
        have hpl : placeV S.L p = A'.length := place_mid (B := B) (by rw [HP.out.eq, hA]; simp) HOK.out.nodup
        have hal : A.length = A'.length + 1 := by rw [hA]; simp
        rw [hal]
        have heq := fun w => st_eq (a := p) (b := (0, 0)) (decide_eq_false h0) w
        have HPL := Lib.hid hpl
        clear h0 h1 hp hA hpl hs2
        go_enter Try.func37, Try.ntmps37
        go_upto_region 4 with fail
        refine wp_let (PB w t p s) (PB.new w t p s) (fun x hx => ?_)
        have HX := Lib.hid hx
        have s0 := blk_cell hx.sb 0
        have s1 := blk_cell hx.sb 1
        have s2 := blk_cell hx.sb 2
        clear hx
        have HCL := Lib.hid (show Calls Try.prog 55 #[encS p, ptr w.heap.size] x fun e w' => e = .returned (.int .i64 A'.length) ∧ Below x.heap.size x w' by rw [← HPL.out]; exact at_clo x t _ S F (H0.out.later HX.out.b) HX.out.tb p)
        go_wp2_with (go_at_call 55; with_reducible refine HCL.out.mono ?_; rintro e y2 ⟨rfl, hb⟩; have HB2 := Lib.hid hb; clear hb)
        go_ret
        exact ⟨rfl, (HX.out.later HB2.out).b⟩
  · obtain ⟨j, rfl⟩ : ∃ j, i = j + 1 := ⟨i - 1, by omega⟩
    obtain ⟨y, hy⟩ : ∃ y, (S.K p s)[j]? = some y := ⟨_, List.getElem?_eq_getElem (by omega)⟩
    obtain ⟨z, A', D, hA, hF⟩ := HP.out.c1 j y rfl hy
    have hym : y ∈ S.L := HOK.out.kid p s y (List.mem_of_getElem? hy)
    have hpl : placeV S.L z = A'.length := place_mid (B := B) (by rw [HP.out.eq, hA]; simp) HOK.out.nodup
    have hal : A.length = A'.length + 1 := by rw [hA]; simp
    rw [hal]
    have HY := Lib.hid hym
    have HF := Lib.hid hF
    have HPL := Lib.hid hpl
    go_enter Try.func37, Try.ntmps37
    go_upto_region 3 with fail
    refine wp_let (PB w t p s) (PB.new w t p s) (fun x hx => ?_)
    have HX := Lib.hid hx
    have hTx := HT.out.later hx.b
    obtain ⟨⟨ao, cap, hsl, hcells⟩, hmax⟩ := own_form (hTx.own p s)
    have bm : (j : Int) < 9223372036854775807 := by unfold maxLen at hmax; omega
    clear hmax
    obtain ⟨A0, rfl, i0, i1⟩ := hcells j y hy
    have hl := fun e => (HT.out.later (hx.later (ext_below x e)).b).kid_run p s
    rw [hsl] at hl
    have e0 := fun e => blk_cell (HT.out.later (hx.later (ext_below x e)).b).top 0
    have t0 := fun e => blk_cell (hx.later (ext_below x e)).tb 0
    have s0 := fun e => blk_cell (hx.later (ext_below x e)).sb 0
    have s1 := fun e => blk_cell (hx.later (ext_below x e)).sb 1
    have s2 := fun e => blk_cell (hx.later (ext_below x e)).sb 2
    have c0 : ∀ e, (ext x e).cell? ⟨A0, j * 2, none⟩ = some (.int .i64 y.1) := fun e => ((ext_below x e).cell (World.block_lt_of_cell? _ _ i0)).trans i0
    have c1 : ∀ e, (ext x e).cell? ⟨A0, j * 2 + 1, none⟩ = some (.int .i64 y.2) := fun e => ((ext_below x e).cell (World.block_lt_of_cell? _ _ i1)).trans i1
    have b0 : (0 : Int) ≤ (j : Int) := by omega
    have b1 : (j : Int) < ((S.K p s).length : Int) := by omega
    have HTE := Lib.hid (fun e => (H0.out.later (hx.later (ext_below x e)).b))
    have HCL := Lib.hid (show ∀ e, Calls Try.prog 55 #[encS z, ptr w.heap.size] (ext x e) fun e' w' => e' = .returned (.int .i64 A'.length) ∧ Below (ext x e).heap.size (ext x e) w' from fun e => by rw [← HPL.out]; exact at_clo (ext x e) t _ S F (HTE.out e) (hx.later (ext_below x e)).tb z)
    clear hTx hcells i0 i1 hx hsl hy hA hF hpl hym
    generalize (S.K p s).length = n at *
    refine region_ext (by kernel_rfl) (by kernel_rfl) ?_
    repeat (go_big_quiet_step (first | (go_at_call 56; with_reducible exact calls_ext (last_any _ t S F (HTE.out _) y HY.out z D HF.out)) | (go_at_call 55; with_reducible exact calls_ext (HCL.out _))))
    refine wpQuiet_nil ?_
    rintro _ ⟨nq, rfl⟩
    go_wp2
    go_ret
    exact ⟨rfl, (HX.out.later (ext_below _ _)).b⟩
end Go.Proofs.Ytohpablkgfkelaa
