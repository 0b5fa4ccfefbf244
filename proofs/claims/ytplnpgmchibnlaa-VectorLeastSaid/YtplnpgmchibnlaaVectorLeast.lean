/- JOIN IS THE LEAST ABOVE BOTH: proved for every three vectors; no condition. -/
import Derived.Test.YtplnpgmchibnlaaVecMost
import Derived.ProofKit
import Derived.OpenShut
import Derived.ShutString
import Derived.ChangeOld
import Derived.Below
namespace Go.Proofs.Ytplnpgmchibnlaa
open Go.ChangeShapes Go.WideShapes Go.ChangeAt Go.RowKit
open Go.ChangeMaps (open_string shut_string)
set_option linter.unusedVariables false
set_option linter.unusedSimpArgs false


theorem most_13 (w : World) : Calls Try.prog 14 #[V8.val ⟨1, 3, 0, 0, 0, 0, 0, 0⟩] w fun e w' => e = .returned (.int .i64 3) ∧ Below w.heap.size w w' := most_any ⟨1, 3, 0, 0, 0, 0, 0, 0⟩ w
set_option maxHeartbeats 4000000 in
theorem vectorLeast_walk (a b c : V8) (w : World) : Calls Try.prog 7 #[a.val, b.val, c.val] w fun e w' => e = .returned (.bool true) ∧ Below w.heap.size w w' := by
  have heq := run_eqv
  have hg := run_guard
  have t0 := Tr.nil w
  have h1 := cov_join_left a b
  have h2 := cov_join_right a b
  have h3 := cov_join_least a b c
  have e1 := beq_eta _ _ (join_comm a b)
  have e2 := beq_eta _ _ (join_assoc a b c)
  have e3 := beq_eta _ _ (join_self a)
  cases ha : c.cov a <;> cases hb : c.cov b
  case true.true =>
    have h4 := h3 ha hb
    clear h3
    go_enter Try.func7, Try.ntmps7
    go_wp2_with (first | (go_at_call 15; with_reducible refine (join_any _ _ _).mono ?_; rintro e w1 ⟨rfl, hb⟩; have t1 := Tr.later (W0 := w) (by repeat (first | with_reducible assumption | with_reducible apply Tr.alloc | with_reducible apply Tr.drew | with_reducible apply Tr.drewN | with_reducible apply Tr.ext | with_reducible apply Tr.other)) hb; have r1 := t1.rules; simp only [Rules, World.size_alloc, World.size_drew, World.size_setCell] at r1; clear hb) | (go_at_call 9; with_reducible refine (covers_any _ _ _).mono ?_; rintro e w1 ⟨rfl, hb⟩; have t1 := Tr.later (W0 := w) (by repeat (first | with_reducible assumption | with_reducible apply Tr.alloc | with_reducible apply Tr.drew | with_reducible apply Tr.drewN | with_reducible apply Tr.ext | with_reducible apply Tr.other)) hb; have r1 := t1.rules; simp only [Rules, World.size_alloc, World.size_drew, World.size_setCell] at r1; clear hb))
    refine wp_name (W0 := w) (by repeat (first | with_reducible assumption | with_reducible apply Tr.alloc | with_reducible apply Tr.drew | with_reducible apply Tr.drewN | with_reducible apply Tr.ext | with_reducible apply Tr.other)) (fun x t r => ?_); simp only [Rules, World.size_alloc, World.size_drew, World.size_setCell] at r
    refine region_ext (by kernel_rfl) (by kernel_rfl) ?_
    repeat (go_big_quiet_step (first | (go_at_call 14; first | with_reducible exact calls_ext (most_13 _)) | (go_at_call 9; first | with_reducible exact calls_ext (bool_of h1 (covers_any (a.join b) a _)) | with_reducible exact calls_ext (bool_of h2 (covers_any (a.join b) b _)) | with_reducible exact calls_ext (bool_of h4 (covers_any c (a.join b) _))) | (go_at_call 15; first | with_reducible exact calls_ext (join_any b a _) | with_reducible exact calls_ext (join_any (a.join b) c _) | with_reducible exact calls_ext (join_any b c _) | with_reducible exact calls_ext (join_any a (b.join c) _) | with_reducible exact calls_ext (join_any a a _))))
    refine wpQuiet_nil ?_
    rintro _ ⟨nq, rfl⟩
    go_wp2
    go_ret
    exact ⟨rfl, Tr.below (W0 := w) (by repeat (first | with_reducible assumption | with_reducible apply Tr.alloc | with_reducible apply Tr.drew | with_reducible apply Tr.drewN | with_reducible apply Tr.ext | with_reducible apply Tr.other))⟩

  all_goals
    have h4 : true = true := rfl
    clear h3
    go_enter Try.func7, Try.ntmps7
    go_wp2_with (first | (go_at_call 15; with_reducible refine (join_any _ _ _).mono ?_; rintro e w1 ⟨rfl, hb⟩; have t1 := Tr.later (W0 := w) (by repeat (first | with_reducible assumption | with_reducible apply Tr.alloc | with_reducible apply Tr.drew | with_reducible apply Tr.drewN | with_reducible apply Tr.ext | with_reducible apply Tr.other)) hb; have r1 := t1.rules; simp only [Rules, World.size_alloc, World.size_drew, World.size_setCell] at r1; clear hb) | (go_at_call 9; with_reducible refine (covers_any _ _ _).mono ?_; rintro e w1 ⟨rfl, hb⟩; have t1 := Tr.later (W0 := w) (by repeat (first | with_reducible assumption | with_reducible apply Tr.alloc | with_reducible apply Tr.drew | with_reducible apply Tr.drewN | with_reducible apply Tr.ext | with_reducible apply Tr.other)) hb; have r1 := t1.rules; simp only [Rules, World.size_alloc, World.size_drew, World.size_setCell] at r1; clear hb))
    refine wp_name (W0 := w) (by repeat (first | with_reducible assumption | with_reducible apply Tr.alloc | with_reducible apply Tr.drew | with_reducible apply Tr.drewN | with_reducible apply Tr.ext | with_reducible apply Tr.other)) (fun x t r => ?_); simp only [Rules, World.size_alloc, World.size_drew, World.size_setCell] at r
    refine region_ext (by kernel_rfl) (by kernel_rfl) ?_
    repeat (go_big_quiet_step (first | (go_at_call 14; first | with_reducible exact calls_ext (most_13 _)) | (go_at_call 9; first | with_reducible exact calls_ext (bool_of h1 (covers_any (a.join b) a _)) | with_reducible exact calls_ext (bool_of h2 (covers_any (a.join b) b _)) ) | (go_at_call 15; first | with_reducible exact calls_ext (join_any b a _) | with_reducible exact calls_ext (join_any (a.join b) c _) | with_reducible exact calls_ext (join_any b c _) | with_reducible exact calls_ext (join_any a (b.join c) _) | with_reducible exact calls_ext (join_any a a _))))
    refine wpQuiet_nil ?_
    rintro _ ⟨nq, rfl⟩
    go_wp2
    go_ret
    exact ⟨rfl, Tr.below (W0 := w) (by repeat (first | with_reducible assumption | with_reducible apply Tr.alloc | with_reducible apply Tr.drew | with_reducible apply Tr.drewN | with_reducible apply Tr.ext | with_reducible apply Tr.other))⟩


set_option maxRecDepth 100000 in
theorem vectorLeast_lifted (os : Os) (started : os.Started) (H : Type) (enc : TypeId × Value → H) :
    ReturnsInHanded {} Try.checked os 7 .any (Rows.vectorLeastSpec.pre6 enc Try.prog Try.f7 Rows.vectorLeastRow.domain false) (Rows.vectorLeastSpec.post enc Try.prog Try.f7 false true false false) := by
  refine returnsInHanded_of_change (C := Try.checked) own started (by kernel_rfl) Try.func7
    (ChangeSpec.witness6 (enc := enc) (C := Try.checked) false ⟨#[], #[.agg #[.int .i64 0, .int .i64 0, .int .i64 0, .int .i64 0, .int .i64 0, .int .i64 0, .int .i64 0, .int .i64 0], .agg #[.int .i64 0, .int .i64 0, .int .i64 0, .int .i64 0, .int .i64 0, .int .i64 0, .int .i64 0, .int .i64 0], .agg #[.int .i64 0, .int .i64 0, .int .i64 0, .int .i64 0, .int .i64 0, .int .i64 0, .int .i64 0, .int .i64 0]], []⟩ 8 (by kernel_rfl) (by kernel_rfl) (by kernel_rfl) (by kernel_rfl)) ?_
  intro W base args ds gs before hval0 hW hcnd _
  have hval : ∀ (j : Nat) t v, Try.f7.params[j]? = some t → args[j]? = some v → Value.okWide Try.prog W .any base t v := hval0
  have hW' := hW
  obtain ⟨p, q, hA0, hV, rfl, hfz, hnd⟩ := hW
  have hA : DataW.TrodAll enc Try.prog W 0 (fun _ => true) true Try.f7.params.toList args.toList ds p := hA0
  rw [Try.params7] at hA hval
  obtain ⟨v0, vs0, d0, ds0, p0, q0, hargs, rfl, rfl, h0, r0⟩ := trodAll_cons hA
  obtain ⟨v1, vs1, d1, ds1, p1, q1, rfl, rfl, rfl, h1, r1⟩ := trodAll_cons r0
  obtain ⟨v2, vs2, d2, ds2, p2, q2, rfl, rfl, rfl, h2, r2⟩ := trodAll_cons r1
  obtain ⟨rfl, rfl, rfl⟩ := trodAll_nil r2
  obtain rfl : args = #[v0, v1, v2] := by cases args; simp_all
  obtain ⟨rfl, rfl⟩ := trodVars_none hV
  have lt0 : ∀ x ∈ p0, x.block < W.heap.size := by obtain ⟨m, hm⟩ := h0; exact DataW.trod_lt m _ _ _ hm
  have lt1 : ∀ x ∈ p1, x.block < W.heap.size := by obtain ⟨m, hm⟩ := h1; exact DataW.trod_lt m _ _ _ hm
  have lt2 : ∀ x ∈ p2, x.block < W.heap.size := by obtain ⟨m, hm⟩ := h2; exact DataW.trod_lt m _ _ _ hm
  obtain ⟨a, rfl⟩ := open_vec (hval 0 23 v0 rfl rfl)
  obtain ⟨b, rfl⟩ := open_vec (hval 1 23 v1 rfl rfl)
  obtain ⟨c, rfl⟩ := open_vec (hval 2 23 v2 rfl rfl)
  clear hA0 hval0
  refine (vectorLeast_walk a b c W).mono fun e W' ⟨he, bel⟩ => ?_
  subst he
  exact ⟨_, rfl, _, _, _, [], _, [], hW', trodAll_mk1 (shut_bool Try.underlying4 _), (trodAll_cons_mk (Below.trod laidOut (by kernel_rfl) (of_decide_eq_true (by kernel_rfl)) h0 bel lt0) (trodAll_cons_mk (Below.trod laidOut (by kernel_rfl) (of_decide_eq_true (by kernel_rfl)) h1 bel lt1) (trodAll_cons_mk (Below.trod laidOut (by kernel_rfl) (of_decide_eq_true (by kernel_rfl)) h2 bel lt2) trodAll_mk0))), rfl, bel.frame _, fun h => by cases h⟩

theorem vectorLeast_holds : Rows.VectorLeastSaid :=
  OpenClaim.holds_of_wide 7 Try.f7 rfl rfl rfl rfl rfl rfl rfl ⟨rfl, rfl, rfl, rfl, rfl⟩ rfl rfl rfl rfl rfl (by kernel_rfl) Try.func7 (by kernel_rfl)
    (of_decide_eq_true (by kernel_rfl)) (by unfold Func.isWrapper; first | (rw [if_pos (by decide +kernel)]; kernel_rfl) | (rw [if_neg (by decide +kernel)]; exact ⟨rfl, rfl⟩))
    (fun os started H enc _ => vectorLeast_lifted os started H enc)

end Go.Proofs.Ytplnpgmchibnlaa
