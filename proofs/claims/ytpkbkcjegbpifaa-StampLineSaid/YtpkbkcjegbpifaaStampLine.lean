/- STAMPS STAND IN ONE LINE: proved for every three stamps; no condition. -/
import Derived.Test.YtpkbkcjegbpifaaStamp
import Derived.ProofKit
import Derived.OpenShut
import Derived.ShutString
import Derived.ChangeOld
import Derived.Below
namespace Go.Proofs.Ytpkbkcjegbpifaa
open Go.ChangeShapes Go.WideShapes Go.ChangeAt Go.RowKit
open Go.ChangeMaps (open_string shut_string)
set_option linter.unusedVariables false
set_option linter.unusedSimpArgs false

theorem run_guard (xs ys : Array Value) (x y : Operand) (w : World) : (eqGuard .eql 23 x y (.agg xs) (.agg ys)).run Try.prog w = .ok () w := by kernel_rfl
theorem cmp_21 : cmpS 2 0 1 0 = 1 := by decide
theorem cmp_three (n r m q : Int) : (n < m ∧ cmpS n r m q = -1 ∧ cmpS m q n r = 1) ∨ (m < n ∧ cmpS n r m q = 1 ∧ cmpS m q n r = -1) ∨
    (n = m ∧ r < q ∧ cmpS n r m q = -1 ∧ cmpS m q n r = 1) ∨ (n = m ∧ q < r ∧ cmpS n r m q = 1 ∧ cmpS m q n r = -1) ∨ (n = m ∧ r = q ∧ cmpS n r m q = 0 ∧ cmpS m q n r = 0) := by
  unfold cmpS cmpI
  rcases Int.lt_trichotomy n m with h | h | h
  · refine Or.inl ⟨h, ?_, ?_⟩ <;> (repeat (first | omega | split))
  · rcases Int.lt_trichotomy r q with k | k | k
    · refine Or.inr (Or.inr (Or.inl ⟨h, k, ?_, ?_⟩)) <;> (repeat (first | omega | split))
    · refine Or.inr (Or.inr (Or.inr (Or.inr ⟨h, k, ?_, ?_⟩))) <;> (repeat (first | omega | split))
    · refine Or.inr (Or.inr (Or.inr (Or.inl ⟨h, k, ?_, ?_⟩))) <;> (repeat (first | omega | split))
  · refine Or.inr (Or.inl ⟨h, ?_, ?_⟩) <;> (repeat (first | omega | split))
theorem cmp_le (n r m q : Int) : cmpS n r m q ≤ 0 ↔ n < m ∨ (n = m ∧ r ≤ q) := by
  unfold cmpS cmpI; repeat (first | omega | split)
theorem cmp_lt (n r m q : Int) : cmpS n r m q < 0 ↔ n < m ∨ (n = m ∧ r < q) := by
  unfold cmpS cmpI; repeat (first | omega | split)
theorem cmp_trans_lt (a b c d e f : Int) (h : cmpS a b c d < 0) (k : cmpS c d e f ≤ 0) : cmpS a b e f < 0 := by
  rw [cmp_lt] at *; rw [cmp_le] at *; omega
theorem cmp_trans_le (a b c d e f : Int) (h : cmpS a b c d ≤ 0) (k : cmpS c d e f ≤ 0) : cmpS a b e f ≤ 0 := by
  rw [cmp_le] at *; omega

def Walk (n r m q l p : Int) (w : World) : Prop := Calls Try.prog 4 #[st n r, st m q, st l p] w fun e w' => e = .returned (.bool true) ∧ Below w.heap.size w w'
set_option maxHeartbeats 1000000 in
theorem line0 (n r m q l p : Int) (h : n < m) (h1 : cmpS n r m q = -1) (h2 : cmpS m q n r = 1) (w : World) : Walk n r m q l p w := by
  have hg := run_guard
  have hone := cmp_21
  have t0 := Tr.nil w
  have hz := Int.lt_or_le 0 (cmpS m q l p)
  rcases hz with hz | hz
  all_goals
    try have hw : cmpS n r l p < 0 := cmp_trans_lt n r m q l p (by rw [h1]; decide) (by assumption)
    unfold Walk
    go_enter Try.func4, Try.ntmps4
    go_wp2_with (go_at_call 9; with_reducible refine (compare_any _ _ _ _ _).mono ?_; rintro e w1 ⟨rfl, hb⟩; have t1 := Tr.later (W0 := w) (by repeat (first | with_reducible assumption | with_reducible apply Tr.alloc | with_reducible apply Tr.drew | with_reducible apply Tr.drewN | with_reducible apply Tr.ext | with_reducible apply Tr.other)) hb; have r1 := t1.rules; simp only [Rules, World.size_alloc, World.size_drew, World.size_setCell] at r1; clear hb)
    go_ret
    exact ⟨by first | rfl | (simp; done) | (simp; omega), Tr.below (W0 := w) (by repeat (first | with_reducible assumption | with_reducible apply Tr.alloc | with_reducible apply Tr.drew | with_reducible apply Tr.drewN | with_reducible apply Tr.ext | with_reducible apply Tr.other))⟩
set_option maxHeartbeats 1000000 in
theorem line1 (n r m q l p : Int) (h : m < n) (h1 : cmpS n r m q = 1) (h2 : cmpS m q n r = -1) (w : World) : Walk n r m q l p w := by
  have hg := run_guard
  have hone := cmp_21
  have t0 := Tr.nil w
  have hz := Int.lt_or_le 0 (cmpS m q l p)
  rcases hz with hz | hz
  all_goals
    skip
    unfold Walk
    go_enter Try.func4, Try.ntmps4
    go_wp2_with (go_at_call 9; with_reducible refine (compare_any _ _ _ _ _).mono ?_; rintro e w1 ⟨rfl, hb⟩; have t1 := Tr.later (W0 := w) (by repeat (first | with_reducible assumption | with_reducible apply Tr.alloc | with_reducible apply Tr.drew | with_reducible apply Tr.drewN | with_reducible apply Tr.ext | with_reducible apply Tr.other)) hb; have r1 := t1.rules; simp only [Rules, World.size_alloc, World.size_drew, World.size_setCell] at r1; clear hb)
    go_ret
    exact ⟨by first | rfl | (simp; done) | (simp; omega), Tr.below (W0 := w) (by repeat (first | with_reducible assumption | with_reducible apply Tr.alloc | with_reducible apply Tr.drew | with_reducible apply Tr.drewN | with_reducible apply Tr.ext | with_reducible apply Tr.other))⟩
set_option maxHeartbeats 1000000 in
theorem line2 (n r m q l p : Int) (h : n = m) (k : r < q) (h1 : cmpS n r m q = -1) (h2 : cmpS m q n r = 1) (w : World) : Walk n r m q l p w := by
  have hg := run_guard
  have hone := cmp_21
  have t0 := Tr.nil w
  have hz := Int.lt_or_le 0 (cmpS m q l p)
  rcases hz with hz | hz
  all_goals
    try have hw : cmpS n r l p < 0 := cmp_trans_lt n r m q l p (by rw [h1]; decide) (by assumption)
    subst h
    unfold Walk
    go_enter Try.func4, Try.ntmps4
    go_wp2_with (go_at_call 9; with_reducible refine (compare_any _ _ _ _ _).mono ?_; rintro e w1 ⟨rfl, hb⟩; have t1 := Tr.later (W0 := w) (by repeat (first | with_reducible assumption | with_reducible apply Tr.alloc | with_reducible apply Tr.drew | with_reducible apply Tr.drewN | with_reducible apply Tr.ext | with_reducible apply Tr.other)) hb; have r1 := t1.rules; simp only [Rules, World.size_alloc, World.size_drew, World.size_setCell] at r1; clear hb)
    go_ret
    exact ⟨by first | rfl | (simp; done) | (simp; omega), Tr.below (W0 := w) (by repeat (first | with_reducible assumption | with_reducible apply Tr.alloc | with_reducible apply Tr.drew | with_reducible apply Tr.drewN | with_reducible apply Tr.ext | with_reducible apply Tr.other))⟩
set_option maxHeartbeats 1000000 in
theorem line3 (n r m q l p : Int) (h : n = m) (k : q < r) (h1 : cmpS n r m q = 1) (h2 : cmpS m q n r = -1) (w : World) : Walk n r m q l p w := by
  have hg := run_guard
  have hone := cmp_21
  have t0 := Tr.nil w
  have hz := Int.lt_or_le 0 (cmpS m q l p)
  rcases hz with hz | hz
  all_goals
    subst h
    unfold Walk
    go_enter Try.func4, Try.ntmps4
    go_wp2_with (go_at_call 9; with_reducible refine (compare_any _ _ _ _ _).mono ?_; rintro e w1 ⟨rfl, hb⟩; have t1 := Tr.later (W0 := w) (by repeat (first | with_reducible assumption | with_reducible apply Tr.alloc | with_reducible apply Tr.drew | with_reducible apply Tr.drewN | with_reducible apply Tr.ext | with_reducible apply Tr.other)) hb; have r1 := t1.rules; simp only [Rules, World.size_alloc, World.size_drew, World.size_setCell] at r1; clear hb)
    go_ret
    exact ⟨by first | rfl | (simp; done) | (simp; omega), Tr.below (W0 := w) (by repeat (first | with_reducible assumption | with_reducible apply Tr.alloc | with_reducible apply Tr.drew | with_reducible apply Tr.drewN | with_reducible apply Tr.ext | with_reducible apply Tr.other))⟩
set_option maxHeartbeats 1000000 in
theorem line4 (n r m q l p : Int) (h : n = m) (k : r = q) (h1 : cmpS n r m q = 0) (h2 : cmpS m q n r = 0) (w : World) : Walk n r m q l p w := by
  have hg := run_guard
  have hone := cmp_21
  have t0 := Tr.nil w
  have hz := Int.lt_or_le 0 (cmpS m q l p)
  rcases hz with hz | hz
  all_goals
    try have hw : cmpS n r l p ≤ 0 := cmp_trans_le n r m q l p (by rw [h1]; decide) (by assumption)
    subst h; subst k
    unfold Walk
    go_enter Try.func4, Try.ntmps4
    go_wp2_with (go_at_call 9; with_reducible refine (compare_any _ _ _ _ _).mono ?_; rintro e w1 ⟨rfl, hb⟩; have t1 := Tr.later (W0 := w) (by repeat (first | with_reducible assumption | with_reducible apply Tr.alloc | with_reducible apply Tr.drew | with_reducible apply Tr.drewN | with_reducible apply Tr.ext | with_reducible apply Tr.other)) hb; have r1 := t1.rules; simp only [Rules, World.size_alloc, World.size_drew, World.size_setCell] at r1; clear hb)
    go_ret
    exact ⟨by first | rfl | (simp; done) | (simp; omega), Tr.below (W0 := w) (by repeat (first | with_reducible assumption | with_reducible apply Tr.alloc | with_reducible apply Tr.drew | with_reducible apply Tr.drewN | with_reducible apply Tr.ext | with_reducible apply Tr.other))⟩
theorem stampLine_walk (n r m q l p : Int) (w : World) : Walk n r m q l p w := by
  rcases cmp_three n r m q with ⟨h, h1, h2⟩ | ⟨h, h1, h2⟩ | ⟨h, k, h1, h2⟩ | ⟨h, k, h1, h2⟩ | ⟨h, k, h1, h2⟩
  · exact line0 n r m q l p h h1 h2 w
  · exact line1 n r m q l p h h1 h2 w
  · exact line2 n r m q l p h k h1 h2 w
  · exact line3 n r m q l p h k h1 h2 w
  · exact line4 n r m q l p h k h1 h2 w

set_option maxRecDepth 100000 in
theorem stampLine_lifted (os : Os) (started : os.Started) (H : Type) (enc : TypeId × Value → H) :
    ReturnsInHanded {} Try.checked os 4 .any (Rows.stampLineSpec.pre6 enc Try.prog Try.f4 Rows.stampLineRow.domain false) (Rows.stampLineSpec.post enc Try.prog Try.f4 false true false false) := by
  refine returnsInHanded_of_change (C := Try.checked) own started (by kernel_rfl) Try.func4
    (ChangeSpec.witness6 (enc := enc) (C := Try.checked) false ⟨#[], #[.agg #[.int .i64 0, .int .i64 0], .agg #[.int .i64 0, .int .i64 0], .agg #[.int .i64 0, .int .i64 0]], []⟩ 8 (by kernel_rfl) (by kernel_rfl) (by kernel_rfl) (by kernel_rfl)) ?_
  intro W base args ds gs before hval0 hW hcnd _
  have hval : ∀ (j : Nat) t v, Try.f4.params[j]? = some t → args[j]? = some v → Value.okWide Try.prog W .any base t v := hval0
  have hW' := hW
  obtain ⟨p, q, hA0, hV, rfl, hfz, hnd⟩ := hW
  have hA : DataW.TrodAll enc Try.prog W 0 (fun _ => true) true Try.f4.params.toList args.toList ds p := hA0
  rw [Try.params4] at hA hval
  obtain ⟨v0, vs0, d0, ds0, p0, q0, hargs, rfl, rfl, h0, r0⟩ := trodAll_cons hA
  obtain ⟨v1, vs1, d1, ds1, p1, q1, rfl, rfl, rfl, h1, r1⟩ := trodAll_cons r0
  obtain ⟨v2, vs2, d2, ds2, p2, q2, rfl, rfl, rfl, h2, r2⟩ := trodAll_cons r1
  obtain ⟨rfl, rfl, rfl⟩ := trodAll_nil r2
  obtain rfl : args = #[v0, v1, v2] := by cases args; simp_all
  obtain ⟨rfl, rfl⟩ := trodVars_none hV
  have lt0 : ∀ x ∈ p0, x.block < W.heap.size := by obtain ⟨m, hm⟩ := h0; exact DataW.trod_lt m _ _ _ hm
  have lt1 : ∀ x ∈ p1, x.block < W.heap.size := by obtain ⟨m, hm⟩ := h1; exact DataW.trod_lt m _ _ _ hm
  have lt2 : ∀ x ∈ p2, x.block < W.heap.size := by obtain ⟨m, hm⟩ := h2; exact DataW.trod_lt m _ _ _ hm
  obtain ⟨x0, y0, rfl, _, _⟩ := open_st (hval 0 23 v0 rfl rfl)
  obtain ⟨x1, y1, rfl, _, _⟩ := open_st (hval 1 23 v1 rfl rfl)
  obtain ⟨x2, y2, rfl, _, _⟩ := open_st (hval 2 23 v2 rfl rfl)
  clear hA0 hval0
  refine (stampLine_walk x0 y0 x1 y1 x2 y2 W).mono fun e W' ⟨he, bel⟩ => ?_
  subst he
  exact ⟨_, rfl, _, _, _, [], _, [], hW', trodAll_mk1 (shut_bool Try.underlying4 _), (trodAll_cons_mk (Below.trod laidOut (by kernel_rfl) (of_decide_eq_true (by kernel_rfl)) h0 bel lt0) (trodAll_cons_mk (Below.trod laidOut (by kernel_rfl) (of_decide_eq_true (by kernel_rfl)) h1 bel lt1) (trodAll_cons_mk (Below.trod laidOut (by kernel_rfl) (of_decide_eq_true (by kernel_rfl)) h2 bel lt2) trodAll_mk0))), rfl, bel.frame _, fun h => by cases h⟩

theorem stampLine_holds : Rows.StampLineSaid :=
  OpenClaim.holds_of_wide 4 Try.f4 rfl rfl rfl rfl rfl rfl rfl ⟨rfl, rfl, rfl, rfl, rfl⟩ rfl rfl rfl rfl rfl (by kernel_rfl) Try.func4 (by kernel_rfl)
    (of_decide_eq_true (by kernel_rfl)) (by unfold Func.isWrapper; first | (rw [if_pos (by decide +kernel)]; kernel_rfl) | (rw [if_neg (by decide +kernel)]; exact ⟨rfl, rfl⟩))
    (fun os started H enc _ => stampLine_lifted os started H enc)

end Go.Proofs.Ytpkbkcjegbpifaa
