/- WHAT IS NEXT IS LATER: proved for every two numbers and stamp; no condition. -/
import Derived.Test.YtpkbkcjegbpifaaStampNext
import Derived.ProofKit
import Derived.OpenShut
import Derived.ShutString
import Derived.ChangeOld
import Derived.Below
namespace Go.Proofs.Ytpkbkcjegbpifaa
open Go.ChangeShapes Go.WideShapes Go.ChangeAt Go.RowKit
open Go.ChangeMaps (open_string shut_string)
set_option linter.unusedVariables false
set_option linter.unusedSimpArgs false

theorem cmp_after (m q s r : Int) (h : m ≤ s) : cmpS m q (s + 1) r = -1 := by
  unfold cmpS cmpI; repeat (first | omega | split)
def Walk (s r m q : Int) (w : World) : Prop := Calls Try.prog 6 #[.int .i64 s, .int .i64 r, st m q] w fun e w' => e = .returned (.bool true) ∧ Below w.heap.size w w'
theorem nextE_bad {s r : Int} (h : r < 0 ∨ 8 ≤ r ∨ s < 0) : nextE s r = 1 := if_pos h
theorem nextE_full {s r : Int} (h0 : 0 ≤ r) (h8 : r < 8) (h : 1048576 ≤ s) : nextE s r = 11 := (if_neg (by omega)).trans (if_pos h)
theorem next_good {s r : Int} (h0 : 0 ≤ r) (h8 : r < 8) (hs : 0 ≤ s) (h : s < 1048576) : nextN s r = s + 1 ∧ nextR s r = r ∧ nextE s r = 0 :=
  ⟨(if_neg (by omega)).trans (if_neg (by omega)), (if_neg (by omega)).trans (if_neg (by omega)), (if_neg (by omega)).trans (if_neg (by omega))⟩
set_option maxHeartbeats 1000000 in
theorem after0 (s r m q : Int) (h : r < 0) (e1 : nextE s r = 1)  (w : World) : Walk s r m q w := by
  have t0 := Tr.nil w
  have b1 : decide (0 ≤ r) = false := by simp; omega
  unfold Walk
  go_enter Try.func6, Try.ntmps6
  go_wp2_with (first | (go_at_call 7; with_reducible refine (next0_any _ _ _).mono ?_; rintro e w1 ⟨rfl, hb⟩; have t1 := Tr.later (W0 := w) (by repeat (first | with_reducible assumption | with_reducible apply Tr.alloc | with_reducible apply Tr.drew | with_reducible apply Tr.drewN | with_reducible apply Tr.ext | with_reducible apply Tr.other)) hb; have r1 := t1.rules; simp only [Rules, World.size_alloc, World.size_drew, World.size_setCell] at r1; clear hb) | (go_at_call 10; with_reducible refine (right0_any _ _ _).mono ?_; rintro e w1 ⟨rfl, hb⟩; have t1 := Tr.later (W0 := w) (by repeat (first | with_reducible assumption | with_reducible apply Tr.alloc | with_reducible apply Tr.drew | with_reducible apply Tr.drewN | with_reducible apply Tr.ext | with_reducible apply Tr.other)) hb; have r1 := t1.rules; simp only [Rules, World.size_alloc, World.size_drew, World.size_setCell] at r1; clear hb) | (go_at_call 9; with_reducible refine (compare_any _ _ _ _ _).mono ?_; rintro e w1 ⟨rfl, hb⟩; have t1 := Tr.later (W0 := w) (by repeat (first | with_reducible assumption | with_reducible apply Tr.alloc | with_reducible apply Tr.drew | with_reducible apply Tr.drewN | with_reducible apply Tr.ext | with_reducible apply Tr.other)) hb; have r1 := t1.rules; simp only [Rules, World.size_alloc, World.size_drew, World.size_setCell] at r1; clear hb))
  all_goals
    go_ret
    exact ⟨by first | rfl | (simp; done) | (simp; omega), Tr.below (W0 := w) (by repeat (first | with_reducible assumption | with_reducible apply Tr.alloc | with_reducible apply Tr.drew | with_reducible apply Tr.drewN | with_reducible apply Tr.ext | with_reducible apply Tr.other))⟩
set_option maxHeartbeats 1000000 in
theorem after1 (s r m q : Int) (h : 8 ≤ r) (e1 : nextE s r = 1)  (w : World) : Walk s r m q w := by
  have t0 := Tr.nil w
  have b1 : decide (r < 8) = false := by simp; omega
  unfold Walk
  go_enter Try.func6, Try.ntmps6
  go_wp2_with (first | (go_at_call 7; with_reducible refine (next0_any _ _ _).mono ?_; rintro e w1 ⟨rfl, hb⟩; have t1 := Tr.later (W0 := w) (by repeat (first | with_reducible assumption | with_reducible apply Tr.alloc | with_reducible apply Tr.drew | with_reducible apply Tr.drewN | with_reducible apply Tr.ext | with_reducible apply Tr.other)) hb; have r1 := t1.rules; simp only [Rules, World.size_alloc, World.size_drew, World.size_setCell] at r1; clear hb) | (go_at_call 10; with_reducible refine (right0_any _ _ _).mono ?_; rintro e w1 ⟨rfl, hb⟩; have t1 := Tr.later (W0 := w) (by repeat (first | with_reducible assumption | with_reducible apply Tr.alloc | with_reducible apply Tr.drew | with_reducible apply Tr.drewN | with_reducible apply Tr.ext | with_reducible apply Tr.other)) hb; have r1 := t1.rules; simp only [Rules, World.size_alloc, World.size_drew, World.size_setCell] at r1; clear hb) | (go_at_call 9; with_reducible refine (compare_any _ _ _ _ _).mono ?_; rintro e w1 ⟨rfl, hb⟩; have t1 := Tr.later (W0 := w) (by repeat (first | with_reducible assumption | with_reducible apply Tr.alloc | with_reducible apply Tr.drew | with_reducible apply Tr.drewN | with_reducible apply Tr.ext | with_reducible apply Tr.other)) hb; have r1 := t1.rules; simp only [Rules, World.size_alloc, World.size_drew, World.size_setCell] at r1; clear hb))
  all_goals
    go_ret
    exact ⟨by first | rfl | (simp; done) | (simp; omega), Tr.below (W0 := w) (by repeat (first | with_reducible assumption | with_reducible apply Tr.alloc | with_reducible apply Tr.drew | with_reducible apply Tr.drewN | with_reducible apply Tr.ext | with_reducible apply Tr.other))⟩
set_option maxHeartbeats 1000000 in
theorem after2 (s r m q : Int) (h : s < 0) (e1 : nextE s r = 1)  (w : World) : Walk s r m q w := by
  have t0 := Tr.nil w
  have b1 : decide (0 ≤ s) = false := by simp; omega
  unfold Walk
  go_enter Try.func6, Try.ntmps6
  go_wp2_with (first | (go_at_call 7; with_reducible refine (next0_any _ _ _).mono ?_; rintro e w1 ⟨rfl, hb⟩; have t1 := Tr.later (W0 := w) (by repeat (first | with_reducible assumption | with_reducible apply Tr.alloc | with_reducible apply Tr.drew | with_reducible apply Tr.drewN | with_reducible apply Tr.ext | with_reducible apply Tr.other)) hb; have r1 := t1.rules; simp only [Rules, World.size_alloc, World.size_drew, World.size_setCell] at r1; clear hb) | (go_at_call 10; with_reducible refine (right0_any _ _ _).mono ?_; rintro e w1 ⟨rfl, hb⟩; have t1 := Tr.later (W0 := w) (by repeat (first | with_reducible assumption | with_reducible apply Tr.alloc | with_reducible apply Tr.drew | with_reducible apply Tr.drewN | with_reducible apply Tr.ext | with_reducible apply Tr.other)) hb; have r1 := t1.rules; simp only [Rules, World.size_alloc, World.size_drew, World.size_setCell] at r1; clear hb) | (go_at_call 9; with_reducible refine (compare_any _ _ _ _ _).mono ?_; rintro e w1 ⟨rfl, hb⟩; have t1 := Tr.later (W0 := w) (by repeat (first | with_reducible assumption | with_reducible apply Tr.alloc | with_reducible apply Tr.drew | with_reducible apply Tr.drewN | with_reducible apply Tr.ext | with_reducible apply Tr.other)) hb; have r1 := t1.rules; simp only [Rules, World.size_alloc, World.size_drew, World.size_setCell] at r1; clear hb))
  all_goals
    go_ret
    exact ⟨by first | rfl | (simp; done) | (simp; omega), Tr.below (W0 := w) (by repeat (first | with_reducible assumption | with_reducible apply Tr.alloc | with_reducible apply Tr.drew | with_reducible apply Tr.drewN | with_reducible apply Tr.ext | with_reducible apply Tr.other))⟩
set_option maxHeartbeats 1000000 in
theorem after3 (s r m q : Int) (h : 1048576 ≤ s) (e1 : nextE s r = 11)  (w : World) : Walk s r m q w := by
  have t0 := Tr.nil w
  have b1 : decide (s < 1048576) = false := by simp; omega
  unfold Walk
  go_enter Try.func6, Try.ntmps6
  go_wp2_with (first | (go_at_call 7; with_reducible refine (next0_any _ _ _).mono ?_; rintro e w1 ⟨rfl, hb⟩; have t1 := Tr.later (W0 := w) (by repeat (first | with_reducible assumption | with_reducible apply Tr.alloc | with_reducible apply Tr.drew | with_reducible apply Tr.drewN | with_reducible apply Tr.ext | with_reducible apply Tr.other)) hb; have r1 := t1.rules; simp only [Rules, World.size_alloc, World.size_drew, World.size_setCell] at r1; clear hb) | (go_at_call 10; with_reducible refine (right0_any _ _ _).mono ?_; rintro e w1 ⟨rfl, hb⟩; have t1 := Tr.later (W0 := w) (by repeat (first | with_reducible assumption | with_reducible apply Tr.alloc | with_reducible apply Tr.drew | with_reducible apply Tr.drewN | with_reducible apply Tr.ext | with_reducible apply Tr.other)) hb; have r1 := t1.rules; simp only [Rules, World.size_alloc, World.size_drew, World.size_setCell] at r1; clear hb) | (go_at_call 9; with_reducible refine (compare_any _ _ _ _ _).mono ?_; rintro e w1 ⟨rfl, hb⟩; have t1 := Tr.later (W0 := w) (by repeat (first | with_reducible assumption | with_reducible apply Tr.alloc | with_reducible apply Tr.drew | with_reducible apply Tr.drewN | with_reducible apply Tr.ext | with_reducible apply Tr.other)) hb; have r1 := t1.rules; simp only [Rules, World.size_alloc, World.size_drew, World.size_setCell] at r1; clear hb))
  all_goals
    go_ret
    exact ⟨by first | rfl | (simp; done) | (simp; omega), Tr.below (W0 := w) (by repeat (first | with_reducible assumption | with_reducible apply Tr.alloc | with_reducible apply Tr.drew | with_reducible apply Tr.drewN | with_reducible apply Tr.ext | with_reducible apply Tr.other))⟩
set_option maxHeartbeats 1000000 in
theorem after4 (s r m q : Int) (h1 : 0 ≤ r) (h2 : r < 8) (h3 : 0 ≤ s) (h4 : s < 1048576) (h5 : s < m) (e1 : nextN s r = s + 1) (e2 : nextR s r = r) (e3 : nextE s r = 0) (e4 : rightB (s + 1) r = true) (w : World) : Walk s r m q w := by
  have t0 := Tr.nil w
  skip
  unfold Walk
  go_enter Try.func6, Try.ntmps6
  go_wp2_with (first | (go_at_call 7; with_reducible refine (next0_any _ _ _).mono ?_; rintro e w1 ⟨rfl, hb⟩; have t1 := Tr.later (W0 := w) (by repeat (first | with_reducible assumption | with_reducible apply Tr.alloc | with_reducible apply Tr.drew | with_reducible apply Tr.drewN | with_reducible apply Tr.ext | with_reducible apply Tr.other)) hb; have r1 := t1.rules; simp only [Rules, World.size_alloc, World.size_drew, World.size_setCell] at r1; clear hb) | (go_at_call 10; with_reducible refine (right0_any _ _ _).mono ?_; rintro e w1 ⟨rfl, hb⟩; have t1 := Tr.later (W0 := w) (by repeat (first | with_reducible assumption | with_reducible apply Tr.alloc | with_reducible apply Tr.drew | with_reducible apply Tr.drewN | with_reducible apply Tr.ext | with_reducible apply Tr.other)) hb; have r1 := t1.rules; simp only [Rules, World.size_alloc, World.size_drew, World.size_setCell] at r1; clear hb) | (go_at_call 9; with_reducible refine (compare_any _ _ _ _ _).mono ?_; rintro e w1 ⟨rfl, hb⟩; have t1 := Tr.later (W0 := w) (by repeat (first | with_reducible assumption | with_reducible apply Tr.alloc | with_reducible apply Tr.drew | with_reducible apply Tr.drewN | with_reducible apply Tr.ext | with_reducible apply Tr.other)) hb; have r1 := t1.rules; simp only [Rules, World.size_alloc, World.size_drew, World.size_setCell] at r1; clear hb))
  all_goals
    go_ret
    exact ⟨by first | rfl | (simp; done) | (simp; omega), Tr.below (W0 := w) (by repeat (first | with_reducible assumption | with_reducible apply Tr.alloc | with_reducible apply Tr.drew | with_reducible apply Tr.drewN | with_reducible apply Tr.ext | with_reducible apply Tr.other))⟩
set_option maxHeartbeats 1000000 in
theorem after5 (s r m q : Int) (h1 : 0 ≤ r) (h2 : r < 8) (h3 : 0 ≤ s) (h4 : s < 1048576) (h5 : m ≤ s) (e1 : nextN s r = s + 1) (e2 : nextR s r = r) (e3 : nextE s r = 0) (e4 : rightB (s + 1) r = true) (e5 : cmpS m q (s + 1) r = -1) (w : World) : Walk s r m q w := by
  have t0 := Tr.nil w
  have b5 : decide (s < m) = false := by simp; omega
  unfold Walk
  go_enter Try.func6, Try.ntmps6
  go_wp2_with (first | (go_at_call 7; with_reducible refine (next0_any _ _ _).mono ?_; rintro e w1 ⟨rfl, hb⟩; have t1 := Tr.later (W0 := w) (by repeat (first | with_reducible assumption | with_reducible apply Tr.alloc | with_reducible apply Tr.drew | with_reducible apply Tr.drewN | with_reducible apply Tr.ext | with_reducible apply Tr.other)) hb; have r1 := t1.rules; simp only [Rules, World.size_alloc, World.size_drew, World.size_setCell] at r1; clear hb) | (go_at_call 10; with_reducible refine (right0_any _ _ _).mono ?_; rintro e w1 ⟨rfl, hb⟩; have t1 := Tr.later (W0 := w) (by repeat (first | with_reducible assumption | with_reducible apply Tr.alloc | with_reducible apply Tr.drew | with_reducible apply Tr.drewN | with_reducible apply Tr.ext | with_reducible apply Tr.other)) hb; have r1 := t1.rules; simp only [Rules, World.size_alloc, World.size_drew, World.size_setCell] at r1; clear hb) | (go_at_call 9; with_reducible refine (compare_any _ _ _ _ _).mono ?_; rintro e w1 ⟨rfl, hb⟩; have t1 := Tr.later (W0 := w) (by repeat (first | with_reducible assumption | with_reducible apply Tr.alloc | with_reducible apply Tr.drew | with_reducible apply Tr.drewN | with_reducible apply Tr.ext | with_reducible apply Tr.other)) hb; have r1 := t1.rules; simp only [Rules, World.size_alloc, World.size_drew, World.size_setCell] at r1; clear hb))
  all_goals
    go_ret
    exact ⟨by first | rfl | (simp; done) | (simp; omega), Tr.below (W0 := w) (by repeat (first | with_reducible assumption | with_reducible apply Tr.alloc | with_reducible apply Tr.drew | with_reducible apply Tr.drewN | with_reducible apply Tr.ext | with_reducible apply Tr.other))⟩
theorem stampAfter_walk (s r m q : Int) (w : World) : Walk s r m q w := by
  by_cases h1 : r < 0
  · exact after0 s r m q h1 (nextE_bad (Or.inl h1)) w
  · by_cases h2 : 8 ≤ r
    · exact after1 s r m q h2 (nextE_bad (Or.inr (Or.inl h2))) w
    · by_cases h3 : s < 0
      · exact after2 s r m q h3 (nextE_bad (Or.inr (Or.inr h3))) w
      · by_cases h4 : 1048576 ≤ s
        · exact after3 s r m q h4 (nextE_full (by omega) (by omega) h4) w
        · obtain ⟨e1, e2, e3⟩ := next_good (s := s) (r := r) (by omega) (by omega) (by omega) (by omega)
          by_cases h5 : s < m
          · exact after4 s r m q (by omega) (by omega) (by omega) (by omega) h5 e1 e2 e3 (right_yes (by omega)) w
          · exact after5 s r m q (by omega) (by omega) (by omega) (by omega) (by omega) e1 e2 e3 (right_yes (by omega)) (cmp_after m q s r (by omega)) w

set_option maxRecDepth 100000 in
theorem stampAfter_lifted (os : Os) (started : os.Started) (H : Type) (enc : TypeId × Value → H) :
    ReturnsInHanded {} Try.checked os 6 .any (Rows.stampAfterSpec.pre6 enc Try.prog Try.f6 Rows.stampAfterRow.domain false) (Rows.stampAfterSpec.post enc Try.prog Try.f6 false true false false) := by
  refine returnsInHanded_of_change (C := Try.checked) own started (by kernel_rfl) Try.func6
    (ChangeSpec.witness6 (enc := enc) (C := Try.checked) false ⟨#[], #[.int .i64 0, .int .i64 0, .agg #[.int .i64 0, .int .i64 0]], []⟩ 8 (by kernel_rfl) (by kernel_rfl) (by kernel_rfl) (by kernel_rfl)) ?_
  intro W base args ds gs before hval0 hW hcnd _
  have hval : ∀ (j : Nat) t v, Try.f6.params[j]? = some t → args[j]? = some v → Value.okWide Try.prog W .any base t v := hval0
  have hW' := hW
  obtain ⟨p, q, hA0, hV, rfl, hfz, hnd⟩ := hW
  have hA : DataW.TrodAll enc Try.prog W 0 (fun _ => true) true Try.f6.params.toList args.toList ds p := hA0
  rw [Try.params6] at hA hval
  obtain ⟨v0, vs0, d0, ds0, p0, q0, hargs, rfl, rfl, h0, r0⟩ := trodAll_cons hA
  obtain ⟨v1, vs1, d1, ds1, p1, q1, rfl, rfl, rfl, h1, r1⟩ := trodAll_cons r0
  obtain ⟨v2, vs2, d2, ds2, p2, q2, rfl, rfl, rfl, h2, r2⟩ := trodAll_cons r1
  obtain ⟨rfl, rfl, rfl⟩ := trodAll_nil r2
  obtain rfl : args = #[v0, v1, v2] := by cases args; simp_all
  obtain ⟨rfl, rfl⟩ := trodVars_none hV
  have lt0 : ∀ x ∈ p0, x.block < W.heap.size := by obtain ⟨m, hm⟩ := h0; exact DataW.trod_lt m _ _ _ hm
  have lt1 : ∀ x ∈ p1, x.block < W.heap.size := by obtain ⟨m, hm⟩ := h1; exact DataW.trod_lt m _ _ _ hm
  have lt2 : ∀ x ∈ p2, x.block < W.heap.size := by obtain ⟨m, hm⟩ := h2; exact DataW.trod_lt m _ _ _ hm
  obtain ⟨a0, rfl, rfl, rfl, _⟩ := open_int Try.underlying3 (hval 0 3 v0 rfl rfl) h0
  obtain ⟨a1, rfl, rfl, rfl, _⟩ := open_int Try.underlying3 (hval 1 3 v1 rfl rfl) h1
  obtain ⟨x2, y2, rfl, _, _⟩ := open_st (hval 2 23 v2 rfl rfl)
  clear hA0 hval0
  refine (stampAfter_walk a0 a1 x2 y2 W).mono fun e W' ⟨he, bel⟩ => ?_
  subst he
  exact ⟨_, rfl, _, _, _, [], _, [], hW', trodAll_mk1 (shut_bool Try.underlying4 _), (trodAll_cons_mk (Below.trod laidOut (by kernel_rfl) (of_decide_eq_true (by kernel_rfl)) h0 bel lt0) (trodAll_cons_mk (Below.trod laidOut (by kernel_rfl) (of_decide_eq_true (by kernel_rfl)) h1 bel lt1) (trodAll_cons_mk (Below.trod laidOut (by kernel_rfl) (of_decide_eq_true (by kernel_rfl)) h2 bel lt2) trodAll_mk0))), rfl, bel.frame _, fun h => by cases h⟩

theorem stampAfter_holds : Rows.StampAfterSaid :=
  OpenClaim.holds_of_wide 6 Try.f6 rfl rfl rfl rfl rfl rfl rfl ⟨rfl, rfl, rfl, rfl, rfl⟩ rfl rfl rfl rfl rfl (by kernel_rfl) Try.func6 (by kernel_rfl)
    (of_decide_eq_true (by kernel_rfl)) (by unfold Func.isWrapper; first | (rw [if_pos (by decide +kernel)]; kernel_rfl) | (rw [if_neg (by decide +kernel)]; exact ⟨rfl, rfl⟩))
    (fun os started H enc _ => stampAfter_lifted os started H enc)

end Go.Proofs.Ytpkbkcjegbpifaa
