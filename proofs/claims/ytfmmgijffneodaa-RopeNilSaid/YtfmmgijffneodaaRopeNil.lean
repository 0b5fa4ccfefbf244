/- THE LAW RopeNil. -/
import Derived.Test.YtfmmgijffneodaaRopeAlive
import Derived.Test.YtfmmgijffneodaaRows
import Derived.ProofKit
import Derived.OpenShut
import Derived.ShutString
import Derived.ChangeOld
import Derived.Below
namespace Go.Proofs.Ytfmmgijffneodaa
open Go.ChangeShapes Go.WideShapes Go.ChangeAt Go.RowKit
set_option linter.unusedVariables false
set_option linter.unusedSimpArgs false

set_option maxHeartbeats 1000000 in
theorem ropeNil_walk (a k : Int) (w : World) : Calls Try.prog 7 #[.int .i64 a, .int .i64 k] w fun e w' => e = .returned (.bool true) ∧ Below w.heap.size w w' := by
  have H := Lib.hid (alive_any w)
  have N1 := Lib.hid (fun w => place_nil w k)
  have N2 := Lib.hid (fun w => rank_nil w k)
  have N3 := Lib.hid (fun w => at_nil w a)
  have N4 := Lib.hid (fun w => nth_nil w a)
  have N5 := Lib.hid (fun w => insert_nil w a k true)
  have N6 := Lib.hid (fun w => show_nil w k true)
  have N7 := Lib.hid (fun w => len_nil w)
  have N8 := Lib.hid (fun w => count_nil w)
  have N9 := Lib.hid (fun w => all_nil w)
  go_enter Try.func7, Try.ntmps7
  go_wp2_with (first | (with_reducible refine (N1.out _).mono ?_; rintro e w' ⟨rfl, rfl⟩) | (with_reducible refine (N2.out _).mono ?_; rintro e w' ⟨rfl, rfl⟩) | (with_reducible refine (N3.out _).mono ?_; rintro e w' ⟨rfl, rfl⟩) | (with_reducible refine (N4.out _).mono ?_; rintro e w' ⟨rfl, rfl⟩) | (with_reducible refine (N5.out _).mono ?_; rintro e w' ⟨rfl, rfl⟩) | (with_reducible refine (N6.out _).mono ?_; rintro e w' ⟨rfl, rfl⟩) | (with_reducible refine (N7.out _).mono ?_; rintro e w' ⟨rfl, rfl⟩) | (with_reducible refine (N8.out _).mono ?_; rintro e w' ⟨rfl, rfl⟩) | (with_reducible refine (N9.out _).mono ?_; rintro e w' ⟨rfl, rfl⟩) | (with_reducible refine H.out.mono ?_; rintro e w1 ⟨rfl, hB⟩))
  go_ret
  exact ⟨rfl, hB⟩

set_option maxRecDepth 100000 in
theorem ropeNil_lifted (os : Os) (started : os.Started) (H : Type) (enc : TypeId × Value → H) :
    ReturnsInHanded {} Try.checked os 7 .any (Rows.ropeNilSpec.pre6 enc Try.prog Try.f7 Rows.ropeNilRow.domain false) (Rows.ropeNilSpec.post enc Try.prog Try.f7 false true false false) := by
  refine returnsInHanded_of_change (C := Try.checked) own started (by kernel_rfl) Try.func7
    (ChangeSpec.witness6 (enc := enc) (C := Try.checked) false ⟨#[], #[.int .i64 0, .int .i64 0], []⟩ 8 (by kernel_rfl) (by kernel_rfl) (by kernel_rfl) (by kernel_rfl)) ?_
  intro W base args ds gs before hval0 hW hcnd _
  have hval : ∀ (j : Nat) t v, Try.f7.params[j]? = some t → args[j]? = some v → Value.okWide Try.prog W .any base t v := hval0
  have hW' := hW
  obtain ⟨p, q, hA0, hV, rfl, hfz, hnd⟩ := hW
  have hA : DataW.TrodAll enc Try.prog W 0 (fun _ => true) true Try.f7.params.toList args.toList ds p := hA0
  rw [Try.params7] at hA hval
  obtain ⟨v0, vs0, d0, ds0, p0, q0, hargs, rfl, rfl, h0, r0⟩ := trodAll_cons hA
  obtain ⟨v1, vs1, d1, ds1, p1, q1, rfl, rfl, rfl, h1, r1⟩ := trodAll_cons r0
  obtain ⟨rfl, rfl, rfl⟩ := trodAll_nil r1
  obtain rfl : args = #[v0, v1] := by cases args; simp_all
  obtain ⟨rfl, rfl⟩ := trodVars_none hV
  have lt0 : ∀ x ∈ p0, x.block < W.heap.size := by obtain ⟨m, hm⟩ := h0; exact DataW.trod_lt m _ _ _ hm
  have lt1 : ∀ x ∈ p1, x.block < W.heap.size := by obtain ⟨m, hm⟩ := h1; exact DataW.trod_lt m _ _ _ hm
  obtain ⟨a0, rfl, rfl, rfl, _⟩ := open_int Try.underlying3 (hval 0 3 v0 rfl rfl) h0
  obtain ⟨a1, rfl, rfl, rfl, _⟩ := open_int Try.underlying3 (hval 1 3 v1 rfl rfl) h1
  clear hA0 hval0
  refine (ropeNil_walk a0 a1 W).mono fun e W' ⟨he, bel⟩ => ?_
  subst he
  exact ⟨_, rfl, _, _, _, [], _, [], hW', trodAll_mk1 (shut_bool Try.underlying4 _), (trodAll_cons_mk (Below.trod laidOut (by kernel_rfl) (of_decide_eq_true (by kernel_rfl)) h0 bel lt0) (trodAll_cons_mk (Below.trod laidOut (by kernel_rfl) (of_decide_eq_true (by kernel_rfl)) h1 bel lt1) trodAll_mk0)), rfl, bel.frame _, fun h => by cases h⟩

theorem ropeNil_holds : Rows.RopeNilSaid :=
  OpenClaim.holds_of_wide 7 Try.f7 rfl rfl rfl rfl rfl rfl rfl ⟨rfl, rfl, rfl, rfl, rfl⟩ rfl rfl rfl rfl rfl (by kernel_rfl) Try.func7 (by kernel_rfl)
    (of_decide_eq_true (by kernel_rfl)) (by unfold Func.isWrapper; first | (rw [if_pos (by decide +kernel)]; kernel_rfl) | (rw [if_neg (by decide +kernel)]; exact ⟨rfl, rfl⟩))
    (fun os started H enc _ => ropeNil_lifted os started H enc)

end Go.Proofs.Ytfmmgijffneodaa
