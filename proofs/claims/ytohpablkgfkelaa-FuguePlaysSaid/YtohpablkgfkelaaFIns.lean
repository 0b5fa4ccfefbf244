/- A TEXT IN MEMORY: Insert. -/
import Derived.Test.YtohpablkgfkelaaFInsP
namespace Go.Proofs.Ytohpablkgfkelaa
open Go.RowKit Go.Joins
set_option linter.unusedSimpArgs false
set_option linter.unusedVariables false

/-- Insert's boxes -/
structure IB (w : World) (x p : St) (y : World) : Prop where
  b : Below w.heap.size w y
  xb : y.heap[w.heap.size]? = some (.cells #[.int .i64 x.1, .int .i64 x.2] 30 (0, 0))
  pb : y.heap[w.heap.size + 1]? = some (.cells #[.int .i64 p.1, .int .i64 p.2] 30 (0, 0))
theorem IB.new (w : World) (x p : St) : IB w x p ((w.alloc (.cells #[.int .i64 x.1, .int .i64 x.2] 30)).alloc (.cells #[.int .i64 p.1, .int .i64 p.2] 30)) :=
  ⟨((Below.refl _ _).alloc (Nat.le_refl _) _).alloc (by simp) _, blk_alloc (blk_new _ _), blk_at _ _ _ (by simp)⟩
theorem IB.later {w y z : World} {x p : St} (h : IB w x p y) (b : Below y.heap.size y z) : IB w x p z :=
  ⟨h.b.trans (b.mono h.b.size), (b.block _ (heap_lt h.xb)).trans h.xb, (b.block _ (heap_lt h.pb)).trans h.pb⟩
/-- may it be asked for at all -/
def ArgOk (x p : St) (s : Int) : Prop := rightB x.1 x.2 = true ∧ (s = 1 ∨ s = 2) ∧ ¬ (p = (0, 0) ∧ s = 1)
instance (x p : St) (s : Int) : Decidable (ArgOk x p s) := by unfold ArgOk; infer_instance
set_option maxHeartbeats 2000000 in
set_option maxRecDepth 20000 in
theorem ins_arg (w : World) (t : Nat) (S : Tx) (F : Nat → Prop) (h : Text w t S F) (x p : St) (s c : Int) (ha : ¬ ArgOk x p s) :
    Calls Try.prog 13 #[ptr t, encS x, encS p, .int .i64 s, .int .i64 c] w fun e w' => e = .returned (.int .i64 1) ∧ Below w.heap.size w w' := by
  obtain ⟨kb, cb, gb, r, sl, F0, hT, -⟩ := h
  have htp := hT.top
  have HTP := Lib.hid htp
  clear hT htp
  have hgs := run_stGuard
  obtain ⟨d, hd⟩ : ∃ d, decide (p = (0, 0)) = d := ⟨_, rfl⟩
  have heq := fun w => st_eq (a := p) (b := (0, 0)) hd w
  have HD := Lib.hid hd
  clear hd
  by_cases hr : rightB x.1 x.2 = true
  · by_cases h1 : s = 1
    · have hd1 : d = true := by rw [← HD.out]; exact decide_eq_true (by unfold ArgOk at ha; by_cases e : p = (0, 0); exact e; exact absurd ⟨hr, .inl h1, fun h => e h.1⟩ ha)
      subst hd1
      subst h1
      clear ha
      have HR := Lib.hid hr
      clear hr
      go_enter Try.func13, Try.ntmps13
      go_upto_region 1 with fail
      refine wp_let (IB w x p) (IB.new w x p) (fun y hy => ?_)
      have HY := Lib.hid hy
      have x0 := blk_cell hy.xb 0
      have x1 := blk_cell hy.xb 1
      have p0 := blk_cell hy.pb 0
      have p1 := blk_cell hy.pb 1
      clear hy
      have HRC := Lib.hid (right0_any x.1 x.2 y)
      rw [HR.out] at HRC
      go_wp2_with (go_at_call 32; with_reducible refine HRC.out.mono ?_; rintro e z ⟨rfl, hb⟩; have HB := Lib.hid hb; clear hb)
      go_ret
      exact ⟨rfl, (HY.out.later HB.out).b⟩
    · have h2 : s ≠ 2 := fun e => ha ⟨hr, .inr e, fun h => h1 h.2⟩
      have e1 : (s == 1) = false := beq_eq_false_iff_ne.2 h1
      have e2 : (s == 2) = false := beq_eq_false_iff_ne.2 h2
      have e3 : (s != 1) = true := bne_iff_ne.2 h1
      have e4 : (s != 2) = true := bne_iff_ne.2 h2
      clear ha h1 h2
      have HR := Lib.hid hr
      clear hr
      go_enter Try.func13, Try.ntmps13
      go_upto_region 1 with fail
      refine wp_let (IB w x p) (IB.new w x p) (fun y hy => ?_)
      have HY := Lib.hid hy
      have x0 := blk_cell hy.xb 0
      have x1 := blk_cell hy.xb 1
      have p0 := blk_cell hy.pb 0
      have p1 := blk_cell hy.pb 1
      clear hy
      have HRC := Lib.hid (right0_any x.1 x.2 y)
      rw [HR.out] at HRC
      go_wp2_with (go_at_call 32; with_reducible refine HRC.out.mono ?_; rintro e z ⟨rfl, hb⟩; have HB := Lib.hid hb; clear hb)
      go_ret
      exact ⟨rfl, (HY.out.later HB.out).b⟩
  · have hr : rightB x.1 x.2 = false := by simpa using hr
    clear ha
    have HR := Lib.hid hr
    clear hr
    go_enter Try.func13, Try.ntmps13
    go_upto_region 1 with fail
    refine wp_let (IB w x p) (IB.new w x p) (fun y hy => ?_)
    have HY := Lib.hid hy
    have x0 := blk_cell hy.xb 0
    have x1 := blk_cell hy.xb 1
    have p0 := blk_cell hy.pb 0
    have p1 := blk_cell hy.pb 1
    clear hy
    have HRC := Lib.hid (right0_any x.1 x.2 y)
    rw [HR.out] at HRC
    go_wp2_with (go_at_call 32; with_reducible refine HRC.out.mono ?_; rintro e z ⟨rfl, hb⟩; have HB := Lib.hid hb; clear hb)
    go_ret
    exact ⟨rfl, (HY.out.later HB.out).b⟩
/-- the arguments are right: the tests behind -/
structure ArgG (x p : St) (s : Int) : Prop where
  r : rightB x.1 x.2 = true
  s12 : s = 1 ∨ s = 2
  st : p = (0, 0) → s = 2
theorem ArgOk.g {x p : St} {s : Int} (h : ArgOk x p s) : ArgG x p s := ⟨h.1, h.2.1, fun e => h.2.1.elim (fun k => absurd ⟨e, k⟩ h.2.2) id⟩
set_option maxHeartbeats 2000000 in
set_option maxRecDepth 20000 in
theorem ins_twice (w : World) (t : Nat) (S : Tx) (F : Nat → Prop) (h : Text w t S F) (x p : St) (s c : Int) (ha : ArgOk x p s) (hx : x ∈ S.L) :
    Calls Try.prog 13 #[ptr t, encS x, encS p, .int .i64 s, .int .i64 c] w fun e w' => e = .returned (.int .i64 122) ∧ Below w.heap.size w w' := by
  have H0 := Lib.hid h
  obtain ⟨kb, cb, gb, r, sl, F0, hT, -⟩ := h
  have htp := hT.top
  have HTP := Lib.hid htp
  clear hT htp
  have HR := Lib.hid ha.1
  have HXL := Lib.hid (decide_eq_true hx)
  have hgs := run_stGuard
  have hs := ha.g.s12
  have hst := ha.g.st
  clear ha hx
  by_cases hp : p = (0, 0)
  · obtain rfl := hst hp
    have heq := fun w => st_eq (a := p) (b := (0, 0)) (decide_eq_true hp) w
    clear hp hs hst
    go_enter Try.func13, Try.ntmps13
    go_upto_region 1 with fail
    refine wp_let (IB w x p) (IB.new w x p) (fun y hy => ?_)
    have HY := Lib.hid hy
    have x0 := blk_cell hy.xb 0
    have x1 := blk_cell hy.xb 1
    have p0 := blk_cell hy.pb 0
    have p1 := blk_cell hy.pb 1
    clear hy
    have HRC := Lib.hid (right0_any x.1 x.2 y)
    rw [HR.out] at HRC
    go_wp2_with (first | (go_at_call 32; with_reducible refine HRC.out.mono ?_; rintro e z ⟨rfl, hb⟩; have HB := Lib.hid (HY.out.later hb); have HHC := Lib.hid (show Calls Try.prog 33 #[ptr t, encS x] z fun e w' => e = .returned (.bool true) ∧ Below z.heap.size z w' by rw [← HXL.out]; exact has_any z t S F (H0.out.later HB.out.b) x); have y0 := blk_cell HB.out.xb 0; have y1 := blk_cell HB.out.xb 1; clear hb) | (go_at_call 33; with_reducible refine HHC.out.mono ?_; rintro e z2 ⟨rfl, hb⟩; have HB2 := Lib.hid hb; clear hb))
    go_ret
    exact ⟨rfl, (HB.out.later HB2.out).b⟩
  · have heq := fun w => st_eq (a := p) (b := (0, 0)) (decide_eq_false hp) w
    clear hp hst
    rcases hs with rfl | rfl
    · go_enter Try.func13, Try.ntmps13
      go_upto_region 1 with fail
      refine wp_let (IB w x p) (IB.new w x p) (fun y hy => ?_)
      have HY := Lib.hid hy
      have x0 := blk_cell hy.xb 0
      have x1 := blk_cell hy.xb 1
      have p0 := blk_cell hy.pb 0
      have p1 := blk_cell hy.pb 1
      clear hy
      have HRC := Lib.hid (right0_any x.1 x.2 y)
      rw [HR.out] at HRC
      go_wp2_with (first | (go_at_call 32; with_reducible refine HRC.out.mono ?_; rintro e z ⟨rfl, hb⟩; have HB := Lib.hid (HY.out.later hb); have HHC := Lib.hid (show Calls Try.prog 33 #[ptr t, encS x] z fun e w' => e = .returned (.bool true) ∧ Below z.heap.size z w' by rw [← HXL.out]; exact has_any z t S F (H0.out.later HB.out.b) x); have y0 := blk_cell HB.out.xb 0; have y1 := blk_cell HB.out.xb 1; clear hb) | (go_at_call 33; with_reducible refine HHC.out.mono ?_; rintro e z2 ⟨rfl, hb⟩; have HB2 := Lib.hid hb; clear hb))
      go_ret
      exact ⟨rfl, (HB.out.later HB2.out).b⟩
    · go_enter Try.func13, Try.ntmps13
      go_upto_region 1 with fail
      refine wp_let (IB w x p) (IB.new w x p) (fun y hy => ?_)
      have HY := Lib.hid hy
      have x0 := blk_cell hy.xb 0
      have x1 := blk_cell hy.xb 1
      have p0 := blk_cell hy.pb 0
      have p1 := blk_cell hy.pb 1
      clear hy
      have HRC := Lib.hid (right0_any x.1 x.2 y)
      rw [HR.out] at HRC
      go_wp2_with (first | (go_at_call 32; with_reducible refine HRC.out.mono ?_; rintro e z ⟨rfl, hb⟩; have HB := Lib.hid (HY.out.later hb); have HHC := Lib.hid (show Calls Try.prog 33 #[ptr t, encS x] z fun e w' => e = .returned (.bool true) ∧ Below z.heap.size z w' by rw [← HXL.out]; exact has_any z t S F (H0.out.later HB.out.b) x); have y0 := blk_cell HB.out.xb 0; have y1 := blk_cell HB.out.xb 1; clear hb) | (go_at_call 33; with_reducible refine HHC.out.mono ?_; rintro e z2 ⟨rfl, hb⟩; have HB2 := Lib.hid hb; clear hb))
      go_ret
      exact ⟨rfl, (HB.out.later HB2.out).b⟩
end Go.Proofs.Ytohpablkgfkelaa
