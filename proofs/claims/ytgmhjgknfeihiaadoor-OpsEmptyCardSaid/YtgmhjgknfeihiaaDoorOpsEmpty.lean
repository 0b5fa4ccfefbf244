/- WHAT IS NOT USED IS EMPTY: an operation that may be, may not be any more when a field that its kind does not use is not empty, nor when its stamp is none or one that it names is its own: proved for every operation and every text; no condition. The row lists what the library's tables hold; the card ties them to the program's text. -/
import Derived.Test.YtgmhjgknfeihiaaDoorOEmpty
import Derived.Test.YtgmhjgknfeihiaaDoorCards
import Derived.Test.YtgmhjgknfeihiaaDoorTie
import Derived.WalkKit
import Derived.ProofKit
import Derived.OpenShut
import Derived.ShutString
import Derived.ChangeOld
import Derived.Below
import Derived.Deep.DeepHandedRow
import Derived.Lib.LaidTab
import Derived.LaidMore
import Derived.Lay
namespace Go.Proofs.YtgmhjgknfeihiaaDoor
open Go.ChangeShapes Go.WideShapes Go.ChangeAt Go.RowKit
open Go.ChangeMaps (open_string shut_string)
set_option linter.unusedVariables false
set_option linter.unusedSimpArgs false

open Go.Joins
theorem weigh_two {H : Type} {P : Program} {t0 t1 : TypeId} {d0 : DataW H} {bs : List UInt8} (h : (DataW.weightsEach P [t0, t1] [d0, .lit (.string bs)]).all (· ≤ reachBytes) = true) : bs.length ≤ reachBytes := by
  simp only [DataW.weightsEach, DataW.weights, List.all_append, List.all_cons, Bool.and_eq_true, decide_eq_true_eq] at h
  exact h.2.1.1
theorem sized_str {H : Type} {enc : TypeId × Value → H} {w : World} {base : Nat} {spare : Nat → Bool} {held : Bool} {s : ByteArray} {d0 d1 : DataW H} {ps : List MemPlace} {t0 : TypeId} (h1 : DataW.Trod enc Tryd.prog w base spare held 9 (.string s) d1 ps)
    (hsz : (DataW.weightsEach Tryd.prog [t0, 9] [d0, d1]).all (· ≤ reachBytes) = true) : s.size < 140737488355328 := by
  obtain ⟨m, hm⟩ := h1
  obtain ⟨s', e1, e2, -⟩ := DataW.trod_string Tryd.underlying9 hm
  simp [Value.cells] at e1
  subst e1
  simp only [Prod.mk.injEq] at e2
  rw [e2.1] at hsz
  have := weigh_two hsz
  have hr : reachBytes = 140737488351232 := by decide
  have hl : s.data.toList.length = s.size := by simp
  omega

theorem opsEmpty_door (os : Os) (args : Array Value) : laidMet Tryd.prog Rows.opsEmptyRow.laid ((World.laidAll Tryd.prog os Rows.opsEmptyRow.laid).forCall (fun _ _ => 0) ⟨#[], args, []⟩).memory :=
  laidMet_laidAll _ (by kernel_rfl) (by kernel_rfl)
theorem opsEmpty_reads (os : Os) {H : Type} (enc : TypeId × Value → H) : DataW.whole enc Tryd.prog ((World.laidAll Tryd.prog os Rows.opsEmptyRow.laid).forCall (fun _ _ => 0) ⟨#[], #[.agg #[.int .i64 0, .int .i64 0, .int .i64 0, .int .i64 0, .int .i64 0, .int .i64 0, .int .i64 0, .int .i64 0, .int .i64 0, .int .i64 0, .int .i64 0, .int .i64 0, .int .i64 0, .int .i64 0, .int .i64 0, .int .i64 0, .int .i64 0, .string ⟨#[]⟩, .string ⟨#[]⟩, .string ⟨#[]⟩, .int .i64 0, .int .i64 0, .bool false, .int .i64 0, .int .i64 0, .bool false], .string ⟨#[]⟩], []⟩).memory Tryd.f4.params.toList Rows.opsEmptySpec.vars false #[.agg #[.int .i64 0, .int .i64 0, .int .i64 0, .int .i64 0, .int .i64 0, .int .i64 0, .int .i64 0, .int .i64 0, .int .i64 0, .int .i64 0, .int .i64 0, .int .i64 0, .int .i64 0, .int .i64 0, .int .i64 0, .int .i64 0, .int .i64 0, .string ⟨#[]⟩, .string ⟨#[]⟩, .string ⟨#[]⟩, .int .i64 0, .int .i64 0, .bool false, .int .i64 0, .int .i64 0, .bool false], .string ⟨#[]⟩].toList 8 = some ([.agg [.agg [.lit (.int .i64 0), .lit (.int .i64 0)], .agg [.lit (.int .i64 0), .lit (.int .i64 0), .lit (.int .i64 0), .lit (.int .i64 0), .lit (.int .i64 0), .lit (.int .i64 0), .lit (.int .i64 0), .lit (.int .i64 0)], .lit (.int .i64 0), .agg [.lit (.int .i64 0), .lit (.int .i64 0)], .lit (.int .i64 0), .lit (.int .i64 0), .agg [.lit (.int .i64 0), .lit (.int .i64 0)], .lit (.string []), .lit (.string []), .lit (.string []), .agg [.agg [.lit (.int .i64 0), .lit (.int .i64 0)], .lit (.bool false)], .agg [.agg [.lit (.int .i64 0), .lit (.int .i64 0)], .lit (.bool false)]], .lit (.string [])], [], []) := by kernel_rfl
set_option maxRecDepth 100000 in
theorem opsEmpty_lifted (os : Os) (started : os.Started) (H : Type) (enc : TypeId × Value → H) (F : Stop.Interp) :
    ReturnsInHanded {} Tryd.checked os 4 .any ((OpenSpec.ofChange Rows.opsEmptySpec).preRow enc Tryd.prog Tryd.f4 Rows.opsEmptyRow.domain false Rows.opsEmptyRow.laid) (((OpenSpec.ofChange Rows.opsEmptySpec).at F).post enc Tryd.prog Tryd.f4 false true false false) := by
  have hx := opsEmpty_reads os enc
  refine returnsInHanded_of_row (C := Tryd.checked) (s := OpenSpec.ofChange Rows.opsEmptySpec) own started (by kernel_rfl) Tryd.func4
    (witness_row_at (enc := enc) (C := Tryd.checked) false (World.laidAll Tryd.prog os Rows.opsEmptyRow.laid) #[.agg #[.int .i64 0, .int .i64 0, .int .i64 0, .int .i64 0, .int .i64 0, .int .i64 0, .int .i64 0, .int .i64 0, .int .i64 0, .int .i64 0, .int .i64 0, .int .i64 0, .int .i64 0, .int .i64 0, .int .i64 0, .int .i64 0, .int .i64 0, .string ⟨#[]⟩, .string ⟨#[]⟩, .string ⟨#[]⟩, .int .i64 0, .int .i64 0, .bool false, .int .i64 0, .int .i64 0, .bool false], .string ⟨#[]⟩] (World.laidAll_os _ _ _) (by kernel_rfl) (by kernel_rfl) (by kernel_rfl)
      (OpenSpec.preRow_of_cond 8 hx (by kernel_rfl) (fun k hk => by cases hk) (by kernel_rfl) (opsEmpty_door os _))) ?_
  intro W base args ds gs before hval0 hW _ _ hsz hL _ _
  have hval : ∀ (j : Nat) t v, Tryd.f4.params[j]? = some t → args[j]? = some v → Value.okWide Tryd.prog W .any base t v := hval0
  have hW' := hW
  obtain ⟨p, q, hA0, hV, rfl, hfz, hnd⟩ := hW
  have hA : DataW.TrodAll enc Tryd.prog W 0 (fun _ => true) true Tryd.f4.params.toList args.toList ds p := hA0
  rw [Tryd.params4] at hA hval
  obtain ⟨v0, vs0, d0, ds0, p0, q0, hargs, rfl, rfl, h0, r0⟩ := trodAll_cons hA
  obtain ⟨v1, vs1, d1, ds1, p1, q1, rfl, rfl, rfl, h1, r1⟩ := trodAll_cons r0
  obtain ⟨rfl, rfl, rfl⟩ := trodAll_nil r1
  obtain rfl : args = #[v0, v1] := by cases args; simp_all
  obtain ⟨rfl, rfl⟩ := trodVars_none hV
  have lt0 : ∀ x ∈ p0, x.block < W.heap.size := by obtain ⟨m, hm⟩ := h0; exact DataW.trod_lt m _ _ _ hm
  have lt1 : ∀ x ∈ p1, x.block < W.heap.size := by obtain ⟨m, hm⟩ := h1; exact DataW.trod_lt m _ _ _ hm
  obtain ⟨o, rfl, hfo⟩ := open_op (hval 0 31 v0 rfl rfl) h0
  obtain ⟨s, rfl, -, -, -⟩ := open_string Tryd.underlying9 (hval 1 9 v1 rfl rfl) h1
  have hss : s.size < 140737488355328 := sized_str (t0 := 31) (d0 := d0) h1 hsz
  clear hA0 hval0
  refine (empty_walk o hfo s hss W).mono fun e W' ⟨he, bel⟩ => ?_
  subst he
  exact ⟨_, rfl, _, _, _, [], _, [], hW', trodAll_mk1 (shut_bool Tryd.underlying4 _), (trodAll_cons_mk (Below.trod laidOut (by kernel_rfl) (of_decide_eq_true (by kernel_rfl)) h0 bel lt0) (trodAll_cons_mk (Below.trod laidOut (by kernel_rfl) (of_decide_eq_true (by kernel_rfl)) h1 bel lt1) trodAll_mk0)), rfl, bel.frame _, fun h => by cases h⟩

theorem opsEmpty_said : Rows.OpsEmptySaid :=
  OpenClaim.holds_of_cond 4 Tryd.f4 rfl rfl rfl rfl rfl rfl rfl ⟨rfl, rfl, rfl, rfl, rfl⟩ rfl rfl rfl rfl rfl (by kernel_rfl) Tryd.func4 (by kernel_rfl)
    (of_decide_eq_true (by kernel_rfl)) (by unfold Func.isWrapper; first | (rw [if_pos (by decide +kernel)]; kernel_rfl) | (rw [if_neg (by decide +kernel)]; exact ⟨rfl, rfl⟩))
    (fun os started H enc _ F => by rw [OpenClaim.pre_eq_preRow]; exact opsEmpty_lifted os started H enc F)
theorem opsEmpty_plain (f : FuncId) (fn : Func) (hf : Tryd.pinned.checked.prog.funcNamed "stemma/stemmalaw07.OpsEmpty" = some f) (hfn : Tryd.pinned.checked.prog.funcs[f]? = some fn) :
    false = Tryd.pinned.checked.prog.looks [] ∧ ∀ (j : Nat) t, fn.params[j]? = some t → Tryd.pinned.checked.prog.wantsStandIn t = false := by
  obtain rfl : f = 4 := Option.some.inj ((show Tryd.prog.funcNamed "stemma/stemmalaw07.OpsEmpty" = some 4 by kernel_rfl).symm.trans hf) |>.symm
  obtain rfl : fn = Tryd.f4 := (Option.some.inj (Tryd.func4.symm.trans hfn)).symm
  refine ⟨by kernel_rfl, fun j t ht => ?_⟩
  rw [Tryd.params4] at ht
  have hm : t ∈ [31, 9] := by simpa using Array.mem_of_getElem? ht
  have all : ∀ t ∈ [31, 9], Tryd.prog.wantsStandIn t = false := by
    simp only [List.forall_mem_cons, List.not_mem_nil, false_imp_iff, implies_true, and_true]
    exact ⟨(by kernel_rfl), (by kernel_rfl)⟩
  exact all t hm
theorem opsEmpty_holds : Rows.OpsEmptyCardSaid :=
  Claim7.holds_tied_plain_at .later [] _ _ _ _ opsEmpty_said (fun _ h => by cases h) (by kernel_rfl) (fun _ h => by cases h) opsEmpty_row_tie rfl ⟨rfl, rfl⟩ (by kernel_rfl) rfl opsEmpty_plain (by kernel_rfl)

end Go.Proofs.YtgmhjgknfeihiaaDoor
