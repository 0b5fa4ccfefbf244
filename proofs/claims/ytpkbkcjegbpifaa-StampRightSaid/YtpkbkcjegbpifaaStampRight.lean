/- WHETHER A STAMP MAY BE, AND WHICH OF TWO COMES FIRST: proved for every two stamps; no condition. -/
import Derived.Test.YtpkbkcjegbpifaaStamp
import Derived.ProofKit
import Derived.OpenShut
import Derived.ShutString
import Derived.ChangeOld
import Derived.Below
namespace Go.Proofs.Ytpkbkcjegbpifaa
open Go.ChangeShapes Go.WideShapes Go.ChangeAt Go.RowKit
open Go.ChangeMaps (open_string shut_string)
set_option linter.unusedVariables false
set_option linter.unusedSimpArgs false

def cmpR (n r m q : Int) : Int := if n < m then -1 else if m < n then 1 else if r < q then -1 else if q < r then 1 else 0
theorem cmpR_eq (n r m q : Int) : cmpR n r m q = cmpS n r m q := by
  unfold cmpR cmpS cmpI; repeat (first | omega | split)
theorem refCompare_any (n r m q : Int) (w : World) : Calls Try.prog 12 #[st n r, st m q] w fun e w' => e = .returned (.int .i64 (cmpS n r m q)) ∧ Below w.heap.size w w' := by
  rw [← cmpR_eq]
  by_cases h1 : n < m
  · rw [show cmpR n r m q = -1 from if_pos h1]
    go_enter Try.func12, Try.ntmps12
    go_wp2
    go_ret
    exact ⟨rfl, by (repeat' (first | with_reducible exact Below.refl _ _ | with_reducible assumption | with_reducible refine below_ext ?_ ?_ | with_reducible refine Below.alloc ?_ ?_ _ | with_reducible refine Below.drew ?_ | with_reducible refine below_drewN ?_ _ | with_reducible refine Below.setCell ?_ ?_ _ | go_size))⟩
  · by_cases h2 : m < n
    · rw [show cmpR n r m q = 1 from (if_neg h1).trans (if_pos h2)]
      go_enter Try.func12, Try.ntmps12
      go_wp2
      go_ret
      exact ⟨rfl, by (repeat' (first | with_reducible exact Below.refl _ _ | with_reducible assumption | with_reducible refine below_ext ?_ ?_ | with_reducible refine Below.alloc ?_ ?_ _ | with_reducible refine Below.drew ?_ | with_reducible refine below_drewN ?_ _ | with_reducible refine Below.setCell ?_ ?_ _ | go_size))⟩
    · by_cases h3 : r < q
      · rw [show cmpR n r m q = -1 from (if_neg h1).trans ((if_neg h2).trans (if_pos h3))]
        go_enter Try.func12, Try.ntmps12
        go_wp2
        go_ret
        exact ⟨rfl, by (repeat' (first | with_reducible exact Below.refl _ _ | with_reducible assumption | with_reducible refine below_ext ?_ ?_ | with_reducible refine Below.alloc ?_ ?_ _ | with_reducible refine Below.drew ?_ | with_reducible refine below_drewN ?_ _ | with_reducible refine Below.setCell ?_ ?_ _ | go_size))⟩
      · by_cases h4 : q < r
        · rw [show cmpR n r m q = 1 from (if_neg h1).trans ((if_neg h2).trans ((if_neg h3).trans (if_pos h4)))]
          go_enter Try.func12, Try.ntmps12
          go_wp2
          go_ret
          exact ⟨rfl, by (repeat' (first | with_reducible exact Below.refl _ _ | with_reducible assumption | with_reducible refine below_ext ?_ ?_ | with_reducible refine Below.alloc ?_ ?_ _ | with_reducible refine Below.drew ?_ | with_reducible refine below_drewN ?_ _ | with_reducible refine Below.setCell ?_ ?_ _ | go_size))⟩
        · rw [show cmpR n r m q = 0 from (if_neg h1).trans ((if_neg h2).trans ((if_neg h3).trans (if_neg h4)))]
          go_enter Try.func12, Try.ntmps12
          go_wp2
          go_ret
          exact ⟨rfl, by (repeat' (first | with_reducible exact Below.refl _ _ | with_reducible assumption | with_reducible refine below_ext ?_ ?_ | with_reducible refine Below.alloc ?_ ?_ _ | with_reducible refine Below.drew ?_ | with_reducible refine below_drewN ?_ _ | with_reducible refine Below.setCell ?_ ?_ _ | go_size))⟩
theorem right_10 (w : World) : Calls Try.prog 10 #[st 1 0] w fun e w' => e = .returned (.bool true) ∧ Below w.heap.size w w' := bool_of (by decide) (right0_any 1 0 w)
theorem compare_12 (w : World) : Calls Try.prog 9 #[st 1 0, st 2 0] w fun e w' => e = .returned (.int .i64 (-1)) ∧ Below w.heap.size w w' := compare_any 1 0 2 0 w

set_option maxHeartbeats 1000000 in
theorem stampRight_walk (n r m q : Int) (w : World) : Calls Try.prog 5 #[st n r, st m q] w fun e w' => e = .returned (.bool true) ∧ Below w.heap.size w w' := by
  have t0 := Tr.nil w
  go_enter Try.func5, Try.ntmps5
  go_wp2
  refine wp_name (W0 := w) (by repeat (first | with_reducible assumption | with_reducible apply Tr.alloc | with_reducible apply Tr.drew | with_reducible apply Tr.drewN | with_reducible apply Tr.ext | with_reducible apply Tr.other)) (fun x tx rx => ?_); simp only [Rules, World.size_alloc, World.size_drew, World.size_setCell] at rx
  refine region_ext (by kernel_rfl) (by kernel_rfl) ?_
  repeat (go_big_quiet_step (first | (go_at_call 10; first | with_reducible exact calls_ext (right_10 _) | with_reducible exact calls_ext (right0_any n r _)) | (go_at_call 9; first | with_reducible exact calls_ext (compare_12 _) | with_reducible exact calls_ext (compare_any n r m q _)) | (go_at_call 11; with_reducible exact calls_ext (right1_any n r _)) | (go_at_call 12; with_reducible exact calls_ext (refCompare_any n r m q _))))
  refine wpQuiet_nil ?_
  rintro _ ⟨nq, rfl⟩
  go_wp2
  go_ret
  exact ⟨rfl, Tr.below (W0 := w) (by repeat (first | with_reducible assumption | with_reducible apply Tr.alloc | with_reducible apply Tr.drew | with_reducible apply Tr.drewN | with_reducible apply Tr.ext | with_reducible apply Tr.other))⟩

set_option maxRecDepth 100000 in
theorem stampRight_lifted (os : Os) (started : os.Started) (H : Type) (enc : TypeId × Value → H) :
    ReturnsInHanded {} Try.checked os 5 .any (Rows.stampRightSpec.pre6 enc Try.prog Try.f5 Rows.stampRightRow.domain false) (Rows.stampRightSpec.post enc Try.prog Try.f5 false true false false) := by
  refine returnsInHanded_of_change (C := Try.checked) own started (by kernel_rfl) Try.func5
    (ChangeSpec.witness6 (enc := enc) (C := Try.checked) false ⟨#[], #[.agg #[.int .i64 0, .int .i64 0], .agg #[.int .i64 0, .int .i64 0]], []⟩ 8 (by kernel_rfl) (by kernel_rfl) (by kernel_rfl) (by kernel_rfl)) ?_
  intro W base args ds gs before hval0 hW hcnd _
  have hval : ∀ (j : Nat) t v, Try.f5.params[j]? = some t → args[j]? = some v → Value.okWide Try.prog W .any base t v := hval0
  have hW' := hW
  obtain ⟨p, q, hA0, hV, rfl, hfz, hnd⟩ := hW
  have hA : DataW.TrodAll enc Try.prog W 0 (fun _ => true) true Try.f5.params.toList args.toList ds p := hA0
  rw [Try.params5] at hA hval
  obtain ⟨v0, vs0, d0, ds0, p0, q0, hargs, rfl, rfl, h0, r0⟩ := trodAll_cons hA
  obtain ⟨v1, vs1, d1, ds1, p1, q1, rfl, rfl, rfl, h1, r1⟩ := trodAll_cons r0
  obtain ⟨rfl, rfl, rfl⟩ := trodAll_nil r1
  obtain rfl : args = #[v0, v1] := by cases args; simp_all
  obtain ⟨rfl, rfl⟩ := trodVars_none hV
  have lt0 : ∀ x ∈ p0, x.block < W.heap.size := by obtain ⟨m, hm⟩ := h0; exact DataW.trod_lt m _ _ _ hm
  have lt1 : ∀ x ∈ p1, x.block < W.heap.size := by obtain ⟨m, hm⟩ := h1; exact DataW.trod_lt m _ _ _ hm
  obtain ⟨x0, y0, rfl, _, _⟩ := open_st (hval 0 23 v0 rfl rfl)
  obtain ⟨x1, y1, rfl, _, _⟩ := open_st (hval 1 23 v1 rfl rfl)
  clear hA0 hval0
  refine (stampRight_walk x0 y0 x1 y1 W).mono fun e W' ⟨he, bel⟩ => ?_
  subst he
  exact ⟨_, rfl, _, _, _, [], _, [], hW', trodAll_mk1 (shut_bool Try.underlying4 _), (trodAll_cons_mk (Below.trod laidOut (by kernel_rfl) (of_decide_eq_true (by kernel_rfl)) h0 bel lt0) (trodAll_cons_mk (Below.trod laidOut (by kernel_rfl) (of_decide_eq_true (by kernel_rfl)) h1 bel lt1) trodAll_mk0)), rfl, bel.frame _, fun h => by cases h⟩

theorem stampRight_holds : Rows.StampRightSaid :=
  OpenClaim.holds_of_wide 5 Try.f5 rfl rfl rfl rfl rfl rfl rfl ⟨rfl, rfl, rfl, rfl, rfl⟩ rfl rfl rfl rfl rfl (by kernel_rfl) Try.func5 (by kernel_rfl)
    (of_decide_eq_true (by kernel_rfl)) (by unfold Func.isWrapper; first | (rw [if_pos (by decide +kernel)]; kernel_rfl) | (rw [if_neg (by decide +kernel)]; exact ⟨rfl, rfl⟩))
    (fun os started H enc _ => stampRight_lifted os started H enc)

end Go.Proofs.Ytpkbkcjegbpifaa
