/- A REPLICA's NEXT STAMP: proved for every two numbers; no condition. -/
import Derived.Test.YtpkbkcjegbpifaaStamp
import Derived.ProofKit
import Derived.OpenShut
import Derived.ShutString
import Derived.ChangeOld
import Derived.Below
namespace Go.Proofs.Ytpkbkcjegbpifaa
open Go.ChangeShapes Go.WideShapes Go.ChangeAt Go.RowKit
open Go.ChangeMaps (open_string shut_string)
set_option linter.unusedVariables false
set_option linter.unusedSimpArgs false

set_option maxHeartbeats 1000000 in
theorem next0_any (s r : Int) (w : World) : Calls Try.prog 7 #[.int .i64 s, .int .i64 r] w fun e w' => e = .returned (.tuple #[st (nextN s r) (nextR s r), .int .i64 (nextE s r)]) ∧ Below w.heap.size w w' := by
  by_cases h1 : r < 0
  · have hc : r < 0 ∨ 8 ≤ r ∨ s < 0 := Or.inl h1
    rw [show nextN s r = 0 from if_pos hc, show nextR s r = 0 from if_pos hc, show nextE s r = 1 from if_pos hc]
    clear hc
    go_enter Try.func7, Try.ntmps7
    go_wp2
    refine bodyPost_ret (v := .tuple #[st 0 0, .int .i64 1]) (by simp [results, Try.results7, go_sem]) rfl ⟨rfl, ?_⟩
    (repeat' (first | with_reducible exact Below.refl _ _ | with_reducible assumption | with_reducible refine below_ext ?_ ?_ | with_reducible refine Below.alloc ?_ ?_ _ | with_reducible refine Below.drew ?_ | with_reducible refine below_drewN ?_ _ | with_reducible refine Below.setCell ?_ ?_ _ | go_size))
  · have b1 : decide (r < 0) = false := by simpa using h1
    by_cases h2 : 8 ≤ r
    · have hc : r < 0 ∨ 8 ≤ r ∨ s < 0 := Or.inr (Or.inl h2)
      rw [show nextN s r = 0 from if_pos hc, show nextR s r = 0 from if_pos hc, show nextE s r = 1 from if_pos hc]
      clear hc h1
      go_enter Try.func7, Try.ntmps7
      go_wp2
      refine bodyPost_ret (v := .tuple #[st 0 0, .int .i64 1]) (by simp [results, Try.results7, go_sem]) rfl ⟨rfl, ?_⟩
      (repeat' (first | with_reducible exact Below.refl _ _ | with_reducible assumption | with_reducible refine below_ext ?_ ?_ | with_reducible refine Below.alloc ?_ ?_ _ | with_reducible refine Below.drew ?_ | with_reducible refine below_drewN ?_ _ | with_reducible refine Below.setCell ?_ ?_ _ | go_size))
    · have b2 : decide (8 ≤ r) = false := by simpa using h2
      by_cases h3 : s < 0
      · have hc : r < 0 ∨ 8 ≤ r ∨ s < 0 := Or.inr (Or.inr h3)
        rw [show nextN s r = 0 from if_pos hc, show nextR s r = 0 from if_pos hc, show nextE s r = 1 from if_pos hc]
        clear hc h1 h2
        go_enter Try.func7, Try.ntmps7
        go_wp2
        refine bodyPost_ret (v := .tuple #[st 0 0, .int .i64 1]) (by simp [results, Try.results7, go_sem]) rfl ⟨rfl, ?_⟩
        (repeat' (first | with_reducible exact Below.refl _ _ | with_reducible assumption | with_reducible refine below_ext ?_ ?_ | with_reducible refine Below.alloc ?_ ?_ _ | with_reducible refine Below.drew ?_ | with_reducible refine below_drewN ?_ _ | with_reducible refine Below.setCell ?_ ?_ _ | go_size))
      · have b3 : decide (s < 0) = false := by simpa using h3
        have hc : ¬ (r < 0 ∨ 8 ≤ r ∨ s < 0) := fun h => h.elim h1 (fun h => h.elim h2 h3)
        by_cases h4 : 1048576 ≤ s
        · rw [show nextN s r = 0 from (if_neg hc).trans (if_pos h4), show nextR s r = 0 from (if_neg hc).trans (if_pos h4), show nextE s r = 11 from (if_neg hc).trans (if_pos h4)]
          clear hc h1 h2 h3
          go_enter Try.func7, Try.ntmps7
          go_wp2
          refine bodyPost_ret (v := .tuple #[st 0 0, .int .i64 11]) (by simp [results, Try.results7, go_sem]) rfl ⟨rfl, ?_⟩
          (repeat' (first | with_reducible exact Below.refl _ _ | with_reducible assumption | with_reducible refine below_ext ?_ ?_ | with_reducible refine Below.alloc ?_ ?_ _ | with_reducible refine Below.drew ?_ | with_reducible refine below_drewN ?_ _ | with_reducible refine Below.setCell ?_ ?_ _ | go_size))
        · rw [show nextN s r = s + 1 from (if_neg hc).trans (if_neg h4), show nextR s r = r from (if_neg hc).trans (if_neg h4), show nextE s r = 0 from (if_neg hc).trans (if_neg h4)]
          have k1 : 0 ≤ r := by omega
          have k2 : r < 8 := by omega
          have k3 : 0 ≤ s := by omega
          have k4 : s < 1048576 := by omega
          clear hc h1 h2 h3 h4
          go_enter Try.func7, Try.ntmps7
          go_wp2
          refine bodyPost_ret (v := .tuple #[st (s + 1) r, .int .i64 0]) (by simp [results, Try.results7, go_sem]) rfl ⟨rfl, ?_⟩
          (repeat' (first | with_reducible exact Below.refl _ _ | with_reducible assumption | with_reducible refine below_ext ?_ ?_ | with_reducible refine Below.alloc ?_ ?_ _ | with_reducible refine Below.drew ?_ | with_reducible refine below_drewN ?_ _ | with_reducible refine Below.setCell ?_ ?_ _ | go_size))
set_option maxHeartbeats 1000000 in
theorem next1_any (s r : Int) (w : World) : Calls Try.prog 8 #[.int .i64 s, .int .i64 r] w fun e w' => e = .returned (.tuple #[st (nextN s r) (nextR s r), .int .i64 (nextE s r)]) ∧ Below w.heap.size w w' := by
  by_cases h1 : r < 0
  · have hc : r < 0 ∨ 8 ≤ r ∨ s < 0 := Or.inl h1
    rw [show nextN s r = 0 from if_pos hc, show nextR s r = 0 from if_pos hc, show nextE s r = 1 from if_pos hc]
    clear hc
    go_enter Try.func8, Try.ntmps8
    go_wp2
    refine bodyPost_ret (v := .tuple #[st 0 0, .int .i64 1]) (by simp [results, Try.results8, go_sem]) rfl ⟨rfl, ?_⟩
    (repeat' (first | with_reducible exact Below.refl _ _ | with_reducible assumption | with_reducible refine below_ext ?_ ?_ | with_reducible refine Below.alloc ?_ ?_ _ | with_reducible refine Below.drew ?_ | with_reducible refine below_drewN ?_ _ | with_reducible refine Below.setCell ?_ ?_ _ | go_size))
  · have b1 : decide (r < 0) = false := by simpa using h1
    by_cases h2 : 8 ≤ r
    · have hc : r < 0 ∨ 8 ≤ r ∨ s < 0 := Or.inr (Or.inl h2)
      rw [show nextN s r = 0 from if_pos hc, show nextR s r = 0 from if_pos hc, show nextE s r = 1 from if_pos hc]
      clear hc h1
      go_enter Try.func8, Try.ntmps8
      go_wp2
      refine bodyPost_ret (v := .tuple #[st 0 0, .int .i64 1]) (by simp [results, Try.results8, go_sem]) rfl ⟨rfl, ?_⟩
      (repeat' (first | with_reducible exact Below.refl _ _ | with_reducible assumption | with_reducible refine below_ext ?_ ?_ | with_reducible refine Below.alloc ?_ ?_ _ | with_reducible refine Below.drew ?_ | with_reducible refine below_drewN ?_ _ | with_reducible refine Below.setCell ?_ ?_ _ | go_size))
    · have b2 : decide (8 ≤ r) = false := by simpa using h2
      by_cases h3 : s < 0
      · have hc : r < 0 ∨ 8 ≤ r ∨ s < 0 := Or.inr (Or.inr h3)
        rw [show nextN s r = 0 from if_pos hc, show nextR s r = 0 from if_pos hc, show nextE s r = 1 from if_pos hc]
        clear hc h1 h2
        go_enter Try.func8, Try.ntmps8
        go_wp2
        refine bodyPost_ret (v := .tuple #[st 0 0, .int .i64 1]) (by simp [results, Try.results8, go_sem]) rfl ⟨rfl, ?_⟩
        (repeat' (first | with_reducible exact Below.refl _ _ | with_reducible assumption | with_reducible refine below_ext ?_ ?_ | with_reducible refine Below.alloc ?_ ?_ _ | with_reducible refine Below.drew ?_ | with_reducible refine below_drewN ?_ _ | with_reducible refine Below.setCell ?_ ?_ _ | go_size))
      · have b3 : decide (s < 0) = false := by simpa using h3
        have hc : ¬ (r < 0 ∨ 8 ≤ r ∨ s < 0) := fun h => h.elim h1 (fun h => h.elim h2 h3)
        by_cases h4 : 1048576 ≤ s
        · rw [show nextN s r = 0 from (if_neg hc).trans (if_pos h4), show nextR s r = 0 from (if_neg hc).trans (if_pos h4), show nextE s r = 11 from (if_neg hc).trans (if_pos h4)]
          clear hc h1 h2 h3
          go_enter Try.func8, Try.ntmps8
          go_wp2
          refine bodyPost_ret (v := .tuple #[st 0 0, .int .i64 11]) (by simp [results, Try.results8, go_sem]) rfl ⟨rfl, ?_⟩
          (repeat' (first | with_reducible exact Below.refl _ _ | with_reducible assumption | with_reducible refine below_ext ?_ ?_ | with_reducible refine Below.alloc ?_ ?_ _ | with_reducible refine Below.drew ?_ | with_reducible refine below_drewN ?_ _ | with_reducible refine Below.setCell ?_ ?_ _ | go_size))
        · rw [show nextN s r = s + 1 from (if_neg hc).trans (if_neg h4), show nextR s r = r from (if_neg hc).trans (if_neg h4), show nextE s r = 0 from (if_neg hc).trans (if_neg h4)]
          have k1 : 0 ≤ r := by omega
          have k2 : r < 8 := by omega
          have k3 : 0 ≤ s := by omega
          have k4 : s < 1048576 := by omega
          clear hc h1 h2 h3 h4
          go_enter Try.func8, Try.ntmps8
          go_wp2
          refine bodyPost_ret (v := .tuple #[st (s + 1) r, .int .i64 0]) (by simp [results, Try.results8, go_sem]) rfl ⟨rfl, ?_⟩
          (repeat' (first | with_reducible exact Below.refl _ _ | with_reducible assumption | with_reducible refine below_ext ?_ ?_ | with_reducible refine Below.alloc ?_ ?_ _ | with_reducible refine Below.drew ?_ | with_reducible refine below_drewN ?_ _ | with_reducible refine Below.setCell ?_ ?_ _ | go_size))
theorem next72 (w : World) : Calls Try.prog 7 #[.int .i64 7, .int .i64 2] w fun e w' => e = .returned (.tuple #[st 8 2, .int .i64 0]) ∧ Below w.heap.size w w' := next0_any 7 2 w
theorem run_guard (xs ys : Array Value) (x y : Operand) (w : World) : (eqGuard .eql 23 x y (.agg xs) (.agg ys)).run Try.prog w = .ok () w := by kernel_rfl

set_option maxHeartbeats 1000000 in
theorem stampNext_walk (s r : Int) (w : World) : Calls Try.prog 3 #[.int .i64 s, .int .i64 r] w fun e w' => e = .returned (.bool true) ∧ Below w.heap.size w w' := by
  have hg := run_guard
  have t0 := Tr.nil w
  go_enter Try.func3, Try.ntmps3
  go_wp2_with (first | (go_at_call 7; with_reducible refine (next72 _).mono ?_; rintro e w1 ⟨rfl, hb⟩; have t1 := Tr.later (W0 := w) (by repeat (first | with_reducible assumption | with_reducible apply Tr.alloc | with_reducible apply Tr.drew | with_reducible apply Tr.drewN | with_reducible apply Tr.ext | with_reducible apply Tr.other)) hb; have r1 := t1.rules; simp only [Rules, World.size_alloc, World.size_drew, World.size_setCell] at r1; clear hb) | (go_at_call 7; with_reducible refine (next0_any _ _ _).mono ?_; rintro e w1 ⟨rfl, hb⟩; have t1 := Tr.later (W0 := w) (by repeat (first | with_reducible assumption | with_reducible apply Tr.alloc | with_reducible apply Tr.drew | with_reducible apply Tr.drewN | with_reducible apply Tr.ext | with_reducible apply Tr.other)) hb; have r1 := t1.rules; simp only [Rules, World.size_alloc, World.size_drew, World.size_setCell] at r1; clear hb) | (go_at_call 8; with_reducible refine (next1_any _ _ _).mono ?_; rintro e w1 ⟨rfl, hb⟩; have t1 := Tr.later (W0 := w) (by repeat (first | with_reducible assumption | with_reducible apply Tr.alloc | with_reducible apply Tr.drew | with_reducible apply Tr.drewN | with_reducible apply Tr.ext | with_reducible apply Tr.other)) hb; have r1 := t1.rules; simp only [Rules, World.size_alloc, World.size_drew, World.size_setCell] at r1; clear hb))
  go_ret
  exact ⟨rfl, Tr.below (W0 := w) (by repeat (first | with_reducible assumption | with_reducible apply Tr.alloc | with_reducible apply Tr.drew | with_reducible apply Tr.drewN | with_reducible apply Tr.ext | with_reducible apply Tr.other))⟩

set_option maxRecDepth 100000 in
theorem stampNext_lifted (os : Os) (started : os.Started) (H : Type) (enc : TypeId × Value → H) :
    ReturnsInHanded {} Try.checked os 3 .any (Rows.stampNextSpec.pre6 enc Try.prog Try.f3 Rows.stampNextRow.domain false) (Rows.stampNextSpec.post enc Try.prog Try.f3 false true false false) := by
  refine returnsInHanded_of_change (C := Try.checked) own started (by kernel_rfl) Try.func3
    (ChangeSpec.witness6 (enc := enc) (C := Try.checked) false ⟨#[], #[.int .i64 0, .int .i64 0], []⟩ 8 (by kernel_rfl) (by kernel_rfl) (by kernel_rfl) (by kernel_rfl)) ?_
  intro W base args ds gs before hval0 hW hcnd _
  have hval : ∀ (j : Nat) t v, Try.f3.params[j]? = some t → args[j]? = some v → Value.okWide Try.prog W .any base t v := hval0
  have hW' := hW
  obtain ⟨p, q, hA0, hV, rfl, hfz, hnd⟩ := hW
  have hA : DataW.TrodAll enc Try.prog W 0 (fun _ => true) true Try.f3.params.toList args.toList ds p := hA0
  rw [Try.params3] at hA hval
  obtain ⟨v0, vs0, d0, ds0, p0, q0, hargs, rfl, rfl, h0, r0⟩ := trodAll_cons hA
  obtain ⟨v1, vs1, d1, ds1, p1, q1, rfl, rfl, rfl, h1, r1⟩ := trodAll_cons r0
  obtain ⟨rfl, rfl, rfl⟩ := trodAll_nil r1
  obtain rfl : args = #[v0, v1] := by cases args; simp_all
  obtain ⟨rfl, rfl⟩ := trodVars_none hV
  have lt0 : ∀ x ∈ p0, x.block < W.heap.size := by obtain ⟨m, hm⟩ := h0; exact DataW.trod_lt m _ _ _ hm
  have lt1 : ∀ x ∈ p1, x.block < W.heap.size := by obtain ⟨m, hm⟩ := h1; exact DataW.trod_lt m _ _ _ hm
  obtain ⟨a0, rfl, rfl, rfl, _⟩ := open_int Try.underlying3 (hval 0 3 v0 rfl rfl) h0
  obtain ⟨a1, rfl, rfl, rfl, _⟩ := open_int Try.underlying3 (hval 1 3 v1 rfl rfl) h1
  clear hA0 hval0
  refine (stampNext_walk a0 a1 W).mono fun e W' ⟨he, bel⟩ => ?_
  subst he
  exact ⟨_, rfl, _, _, _, [], _, [], hW', trodAll_mk1 (shut_bool Try.underlying4 _), (trodAll_cons_mk (Below.trod laidOut (by kernel_rfl) (of_decide_eq_true (by kernel_rfl)) h0 bel lt0) (trodAll_cons_mk (Below.trod laidOut (by kernel_rfl) (of_decide_eq_true (by kernel_rfl)) h1 bel lt1) trodAll_mk0)), rfl, bel.frame _, fun h => by cases h⟩

theorem stampNext_holds : Rows.StampNextSaid :=
  OpenClaim.holds_of_wide 3 Try.f3 rfl rfl rfl rfl rfl rfl rfl ⟨rfl, rfl, rfl, rfl, rfl⟩ rfl rfl rfl rfl rfl (by kernel_rfl) Try.func3 (by kernel_rfl)
    (of_decide_eq_true (by kernel_rfl)) (by unfold Func.isWrapper; first | (rw [if_pos (by decide +kernel)]; kernel_rfl) | (rw [if_neg (by decide +kernel)]; exact ⟨rfl, rfl⟩))
    (fun os started H enc _ => stampNext_lifted os started H enc)

end Go.Proofs.Ytpkbkcjegbpifaa
