/- JOINED IS EITHER: proved for every two vectors and stamp; no condition. -/
import Derived.Test.YtplnpgmchibnlaaVecHas
import Derived.Test.YtplnpgmchibnlaaVecMost
import Derived.ProofKit
import Derived.OpenShut
import Derived.ShutString
import Derived.ChangeOld
import Derived.Below
namespace Go.Proofs.Ytplnpgmchibnlaa
open Go.ChangeShapes Go.WideShapes Go.ChangeAt Go.RowKit
open Go.ChangeMaps (open_string shut_string)
set_option linter.unusedVariables false
set_option linter.unusedSimpArgs false


theorem has_01 (w : World) : Calls Try.prog 10 #[V8.val ⟨0, 0, 0, 0, 0, 0, 0, 0⟩, st 1 0] w fun e w' => e = .returned (.bool false) ∧ Below w.heap.size w w' :=
  bool_of (by decide) (has_any ⟨0, 0, 0, 0, 0, 0, 0, 0⟩ 1 0 w)
theorem Tr.forget {W0 w : World} {L L' : List (Nat × Array Value × TypeId)} (h : Tr W0 w L) (hL : ∀ p ∈ L', p ∈ L) : Tr W0 w L' := ⟨h.1, fun p hp => h.2 p (hL p hp)⟩
set_option maxHeartbeats 4000000 in
theorem vectorEither_walk (a b : V8) (n r : Int) (w : World) : Calls Try.prog 8 #[a.val, b.val, st n r] w fun e w' => e = .returned (.bool true) ∧ Below w.heap.size w w' := by
  have heq := run_eqv
  have hg := run_guard
  have t0 := Tr.nil w
  have hmx := run_mx
  have hj := has_join a b n r
  have hm : ((a.join b).most == mx a.most b.most) = true := by rw [most_join]; simp
  cases hA : a.has n r <;> cases hB : b.has n r
  all_goals
    rw [hA, hB] at hj
    simp only [Bool.or_true, Bool.or_false, Bool.true_or, Bool.false_or] at hj
    go_enter Try.func8, Try.ntmps8
    go_wp2_with fail
    refine (join_any a b _).mono ?_
    rintro e w1 ⟨rfl, hb⟩
    have t1 := Tr.later (W0 := w) (by repeat (first | with_reducible assumption | with_reducible apply Tr.alloc | with_reducible apply Tr.drew | with_reducible apply Tr.drewN | with_reducible apply Tr.ext | with_reducible apply Tr.other)) hb; have r1 := t1.rules; simp only [Rules, World.size_alloc, World.size_drew, World.size_setCell] at r1; clear hb
    go_wp2_with fail
    refine (with_any a n r _).mono ?_
    rintro e w2 ⟨rfl, hb⟩
    have t1 := Tr.later (W0 := w) (by repeat (first | with_reducible assumption | with_reducible apply Tr.alloc | with_reducible apply Tr.drew | with_reducible apply Tr.drewN | with_reducible apply Tr.ext | with_reducible apply Tr.other)) hb; have r1 := t1.rules; simp only [Rules, World.size_alloc, World.size_drew, World.size_setCell] at r1; clear hb
    go_wp2_with fail
    refine wp_name (W0 := w) (by repeat (first | with_reducible assumption | with_reducible apply Tr.alloc | with_reducible apply Tr.drew | with_reducible apply Tr.drewN | with_reducible apply Tr.ext | with_reducible apply Tr.other)) (fun x tx rx => ?_); simp only [Rules, World.size_alloc, World.size_drew, World.size_setCell] at rx
    refine region_ext (by kernel_rfl) (by kernel_rfl) ?_
    repeat (go_big_quiet_step (first | (go_at_call 10; first | with_reducible exact calls_ext (has_01 _) | with_reducible exact calls_ext (bool_of hj (has_any (a.join b) n r _)) | with_reducible exact calls_ext (bool_of hA (has_any a n r _)) | with_reducible exact calls_ext (bool_of hB (has_any b n r _)))))
    refine wpQuiet_nil ?_
    rintro _ ⟨nq, rfl⟩
    go_wp2

    go_loopw [9, 10] (fun ok i wr => ∃ k : Nat, k ≤ 8 ∧ i = .int .i64 (k : Int) ∧ ok = .bool true ∧ Tr w wr [(w2.heap.size, #[.int .i64 (a.with n r).x0, .int .i64 (a.with n r).x1, .int .i64 (a.with n r).x2, .int .i64 (a.with n r).x3, .int .i64 (a.with n r).x4, .int .i64 (a.with n r).x5, .int .i64 (a.with n r).x6, .int .i64 (a.with n r).x7], 23), (w1.heap.size, #[.int .i64 (a.join b).x0, .int .i64 (a.join b).x1, .int .i64 (a.join b).x2, .int .i64 (a.join b).x3, .int .i64 (a.join b).x4, .int .i64 (a.join b).x5, .int .i64 (a.join b).x6, .int .i64 (a.join b).x7], 23), (w.heap.size + 1 + 1, #[.int .i64 n, .int .i64 r], 27), (w.heap.size + 1, #[.int .i64 (b).x0, .int .i64 (b).x1, .int .i64 (b).x2, .int .i64 (b).x3, .int .i64 (b).x4, .int .i64 (b).x5, .int .i64 (b).x6, .int .i64 (b).x7], 23), (w.heap.size, #[.int .i64 (a).x0, .int .i64 (a).x1, .int .i64 (a).x2, .int .i64 (a).x3, .int .i64 (a).x4, .int .i64 (a).x5, .int .i64 (a).x6, .int .i64 (a).x7], 23)]) (fun _ i _ => 8 - (intOf i).toNat)
    case atStart => exact ⟨0, by omega, rfl, rfl, (tx.ext).forget (by simp)⟩
    case round =>
      obtain ⟨k, hk, rfl, rfl, t⟩ := hrel
      clear rx r1
      have r1 := t.rules
      simp only [Rules] at r1
      by_cases h8 : k < 8
      · have hw' := has_with a n r k (by omega) (by omega)
        cases hK : a.has n k <;> cases hkr : ((k : Int) == r)
        all_goals
          have hW : (a.with n r).has n k = _ := hw'
          rw [hK, hkr] at hW
          simp only [Bool.or_true, Bool.or_false, Bool.true_or, Bool.false_or] at hW
          clear hw'
          go_wp2
          refine wp_name (W0 := w) (by repeat (first | with_reducible assumption | with_reducible apply Tr.alloc | with_reducible apply Tr.drew | with_reducible apply Tr.drewN | with_reducible apply Tr.ext | with_reducible apply Tr.other)) (fun x tx rx => ?_); simp only [Rules, World.size_alloc, World.size_drew, World.size_setCell] at rx
          refine region_ext (by kernel_rfl) (by kernel_rfl) ?_
          repeat (go_big_quiet_step (first | (go_at_call 10; first | with_reducible exact calls_ext (bool_of hW (has_any (a.with n r) n k _)) | with_reducible exact calls_ext (bool_of hK (has_any a n k _)))))
          refine wpQuiet_nil ?_
          rintro _ ⟨nq, rfl⟩
          go_wp2
          go_roundw
          case rel => exact ⟨k + 1, by omega, by go_num, rfl, (tx.ext).forget (by simp)⟩
          case measure => simp [intOf]; omega
      · have h8' : k = 8 := by omega
        subst h8'
        go_wp2
        refine wp_name (W0 := w) (by repeat (first | with_reducible assumption | with_reducible apply Tr.alloc | with_reducible apply Tr.drew | with_reducible apply Tr.drewN | with_reducible apply Tr.ext | with_reducible apply Tr.other)) (fun x tx rx => ?_); simp only [Rules, World.size_alloc, World.size_drew, World.size_setCell] at rx
        refine region_ext (by kernel_rfl) (by kernel_rfl) ?_
        repeat (go_big_quiet_step (first | (go_at_call 14; first | with_reducible exact calls_ext (most_any (a.join b) _) | with_reducible exact calls_ext (most_any a _) | with_reducible exact calls_ext (most_any b _))))
        refine wpQuiet_nil ?_
        rintro _ ⟨nq, rfl⟩
        go_wp2
        go_ret
        exact ⟨rfl, Tr.below (W0 := w) (by repeat (first | with_reducible assumption | with_reducible apply Tr.alloc | with_reducible apply Tr.drew | with_reducible apply Tr.drewN | with_reducible apply Tr.ext | with_reducible apply Tr.other))⟩


set_option maxRecDepth 100000 in
theorem vectorEither_lifted (os : Os) (started : os.Started) (H : Type) (enc : TypeId × Value → H) :
    ReturnsInHanded {} Try.checked os 8 .any (Rows.vectorEitherSpec.pre6 enc Try.prog Try.f8 Rows.vectorEitherRow.domain false) (Rows.vectorEitherSpec.post enc Try.prog Try.f8 false true false false) := by
  refine returnsInHanded_of_change (C := Try.checked) own started (by kernel_rfl) Try.func8
    (ChangeSpec.witness6 (enc := enc) (C := Try.checked) false ⟨#[], #[.agg #[.int .i64 0, .int .i64 0, .int .i64 0, .int .i64 0, .int .i64 0, .int .i64 0, .int .i64 0, .int .i64 0], .agg #[.int .i64 0, .int .i64 0, .int .i64 0, .int .i64 0, .int .i64 0, .int .i64 0, .int .i64 0, .int .i64 0], .agg #[.int .i64 0, .int .i64 0]], []⟩ 8 (by kernel_rfl) (by kernel_rfl) (by kernel_rfl) (by kernel_rfl)) ?_
  intro W base args ds gs before hval0 hW hcnd _
  have hval : ∀ (j : Nat) t v, Try.f8.params[j]? = some t → args[j]? = some v → Value.okWide Try.prog W .any base t v := hval0
  have hW' := hW
  obtain ⟨p, q, hA0, hV, rfl, hfz, hnd⟩ := hW
  have hA : DataW.TrodAll enc Try.prog W 0 (fun _ => true) true Try.f8.params.toList args.toList ds p := hA0
  rw [Try.params8] at hA hval
  obtain ⟨v0, vs0, d0, ds0, p0, q0, hargs, rfl, rfl, h0, r0⟩ := trodAll_cons hA
  obtain ⟨v1, vs1, d1, ds1, p1, q1, rfl, rfl, rfl, h1, r1⟩ := trodAll_cons r0
  obtain ⟨v2, vs2, d2, ds2, p2, q2, rfl, rfl, rfl, h2, r2⟩ := trodAll_cons r1
  obtain ⟨rfl, rfl, rfl⟩ := trodAll_nil r2
  obtain rfl : args = #[v0, v1, v2] := by cases args; simp_all
  obtain ⟨rfl, rfl⟩ := trodVars_none hV
  have lt0 : ∀ x ∈ p0, x.block < W.heap.size := by obtain ⟨m, hm⟩ := h0; exact DataW.trod_lt m _ _ _ hm
  have lt1 : ∀ x ∈ p1, x.block < W.heap.size := by obtain ⟨m, hm⟩ := h1; exact DataW.trod_lt m _ _ _ hm
  have lt2 : ∀ x ∈ p2, x.block < W.heap.size := by obtain ⟨m, hm⟩ := h2; exact DataW.trod_lt m _ _ _ hm
  obtain ⟨a0, rfl⟩ := open_vec (hval 0 23 v0 rfl rfl)
  obtain ⟨a1, rfl⟩ := open_vec (hval 1 23 v1 rfl rfl)
  obtain ⟨n, r, rfl, _, _⟩ := open_st (hval 2 27 v2 rfl rfl)
  clear hA0 hval0
  refine (vectorEither_walk a0 a1 n r W).mono fun e W' ⟨he, bel⟩ => ?_
  subst he
  exact ⟨_, rfl, _, _, _, [], _, [], hW', trodAll_mk1 (shut_bool Try.underlying4 _), (trodAll_cons_mk (Below.trod laidOut (by kernel_rfl) (of_decide_eq_true (by kernel_rfl)) h0 bel lt0) (trodAll_cons_mk (Below.trod laidOut (by kernel_rfl) (of_decide_eq_true (by kernel_rfl)) h1 bel lt1) (trodAll_cons_mk (Below.trod laidOut (by kernel_rfl) (of_decide_eq_true (by kernel_rfl)) h2 bel lt2) trodAll_mk0))), rfl, bel.frame _, fun h => by cases h⟩

theorem vectorEither_holds : Rows.VectorEitherSaid :=
  OpenClaim.holds_of_wide 8 Try.f8 rfl rfl rfl rfl rfl rfl rfl ⟨rfl, rfl, rfl, rfl, rfl⟩ rfl rfl rfl rfl rfl (by kernel_rfl) Try.func8 (by kernel_rfl)
    (of_decide_eq_true (by kernel_rfl)) (by unfold Func.isWrapper; first | (rw [if_pos (by decide +kernel)]; kernel_rfl) | (rw [if_neg (by decide +kernel)]; exact ⟨rfl, rfl⟩))
    (fun os started H enc _ => vectorEither_lifted os started H enc)

end Go.Proofs.Ytplnpgmchibnlaa
