/- WHETHER ANY OPERATION MAY BE IS AS THE DOCUMENT SAYS: proved for every operation; no condition. The row lists what the library's tables hold; the card ties them to the program's text. -/
import Derived.Test.YtgmhjgknfeihiaaDoorOLaw
import Derived.Test.YtgmhjgknfeihiaaDoorCards
import Derived.Test.YtgmhjgknfeihiaaDoorTie
import Derived.WalkKit
import Derived.ProofKit
import Derived.OpenShut
import Derived.ShutString
import Derived.ChangeOld
import Derived.Below
import Derived.Deep.DeepHandedRow
import Derived.Lib.LaidTab
import Derived.LaidMore
import Derived.Lay
namespace Go.Proofs.YtgmhjgknfeihiaaDoor
open Go.ChangeShapes Go.WideShapes Go.ChangeAt Go.RowKit
open Go.ChangeMaps (open_string shut_string)
set_option linter.unusedVariables false
set_option linter.unusedSimpArgs false

open Go.Joins
theorem quiet_load {P : Program} {o : Oper} {a : Act} {C : World → Prop} {K : Act → Prop} (p : Operand) (t : TypeId) (hop : o.op = Op.load t p) {b off : Nat} {cs : Array Value} {fs : Array Field} (hp : a.eval p = .pointer (some ⟨b, off, none⟩)) (hu : P.underlying t = some (.struct fs)) (hi : (P.info? t).map (·.size) = some cs.size)
    (hc : ∀ w, C w → ∀ (j : Nat) v, cs[j]? = some v → w.cell? ⟨b, off + j, none⟩ = some v) (hK : K (a.put o.dst (.agg cs))) : o.quiet P a C K :=
  ⟨.agg cs, fun w hw => by
    unfold Oper.quietAt
    rw [exec_load_at w p t hop hp hu hi (hc w hw)]
    exact ⟨rfl, rfl⟩, hK⟩
set_option maxHeartbeats 4000000 in
theorem right_walk (o : OpG) (hf : o.fine) (w : World) : Calls Tryd.prog 3 #[o.val] w fun e w' => e = .returned (.bool true) ∧ Below w.heap.size w w' := by
  have AL := Lib.hid alive_any
  cases hb : o.rightP with
  | true =>
    have R1 := Lib.hid (fun w => bool_of hb (opsRight_any o hf w))
    have R2 := Lib.hid (fun w => bool_of hb (refRight_any o hf w))
    clear hb hf
    go_enter Tryd.func3, Tryd.ntmps3
    go_wp2_with fail
    refine wp_let' (OpBox o w) (opBox_new o w) (fun x hx => ?_)
    have HX := Lib.hid hx
    clear hx
    have hc : ∀ y, (∃ n, y = ext x n) → ∀ (j : Nat) v, (OpG.cells o)[j]? = some v → y.cell? ⟨w.heap.size, 0 + j, none⟩ = some v := fun y ⟨n, e⟩ j v hv => by
      rw [e, Nat.zero_add, blk_cell (HX.out.ext n).2]; exact hv
    have HC := Lib.hid hc
    clear hc
    refine region_ext (by kernel_rfl) (by kernel_rfl) ?_
    go_big_quiet_step (with_reducible exact calls_ext (AL.out _))
    go_big_quiet_step (fail)
    go_big_quiet_want
    refine quiet_load (.tmp 1) 31 rfl (b := w.heap.size) (off := 0) (cs := OpG.cells o) rfl Tryd.underlying31 (by kernel_rfl) HC.out ?_
    go_big_quiet_on
    simp only [Act.put, List.setIfInBounds_toArray, List.set_cons_zero, List.set_cons_succ]
    go_big_quiet_step (with_reducible exact calls_ext (R1.out _))
    go_big_quiet_want
    refine quiet_load (.tmp 1) 31 rfl (b := w.heap.size) (off := 0) (cs := OpG.cells o) rfl Tryd.underlying31 (by kernel_rfl) HC.out ?_
    go_big_quiet_on
    simp only [Act.put, List.setIfInBounds_toArray, List.set_cons_zero, List.set_cons_succ]
    go_big_quiet_step (with_reducible exact calls_ext (R2.out _))
    repeat (go_big_quiet_step (fail))
    refine wpQuiet_nil ?_
    rintro _ ⟨nq, rfl⟩
    go_wp2_with fail
    go_ret
    exact ⟨rfl, (HX.out.ext nq).1⟩
  | false =>
    have R1 := Lib.hid (fun w => bool_of hb (opsRight_any o hf w))
    have R2 := Lib.hid (fun w => bool_of hb (refRight_any o hf w))
    clear hb hf
    go_enter Tryd.func3, Tryd.ntmps3
    go_wp2_with fail
    refine wp_let' (OpBox o w) (opBox_new o w) (fun x hx => ?_)
    have HX := Lib.hid hx
    clear hx
    have hc : ∀ y, (∃ n, y = ext x n) → ∀ (j : Nat) v, (OpG.cells o)[j]? = some v → y.cell? ⟨w.heap.size, 0 + j, none⟩ = some v := fun y ⟨n, e⟩ j v hv => by
      rw [e, Nat.zero_add, blk_cell (HX.out.ext n).2]; exact hv
    have HC := Lib.hid hc
    clear hc
    refine region_ext (by kernel_rfl) (by kernel_rfl) ?_
    go_big_quiet_step (with_reducible exact calls_ext (AL.out _))
    go_big_quiet_step (fail)
    go_big_quiet_want
    refine quiet_load (.tmp 1) 31 rfl (b := w.heap.size) (off := 0) (cs := OpG.cells o) rfl Tryd.underlying31 (by kernel_rfl) HC.out ?_
    go_big_quiet_on
    simp only [Act.put, List.setIfInBounds_toArray, List.set_cons_zero, List.set_cons_succ]
    go_big_quiet_step (with_reducible exact calls_ext (R1.out _))
    go_big_quiet_want
    refine quiet_load (.tmp 1) 31 rfl (b := w.heap.size) (off := 0) (cs := OpG.cells o) rfl Tryd.underlying31 (by kernel_rfl) HC.out ?_
    go_big_quiet_on
    simp only [Act.put, List.setIfInBounds_toArray, List.set_cons_zero, List.set_cons_succ]
    go_big_quiet_step (with_reducible exact calls_ext (R2.out _))
    repeat (go_big_quiet_step (fail))
    refine wpQuiet_nil ?_
    rintro _ ⟨nq, rfl⟩
    go_wp2_with fail
    go_ret
    exact ⟨rfl, (HX.out.ext nq).1⟩

theorem opsRight_door (os : Os) (args : Array Value) : laidMet Tryd.prog Rows.opsRightRow.laid ((World.laidAll Tryd.prog os Rows.opsRightRow.laid).forCall (fun _ _ => 0) ⟨#[], args, []⟩).memory :=
  laidMet_laidAll _ (by kernel_rfl) (by kernel_rfl)
theorem opsRight_reads (os : Os) {H : Type} (enc : TypeId × Value → H) : DataW.whole enc Tryd.prog ((World.laidAll Tryd.prog os Rows.opsRightRow.laid).forCall (fun _ _ => 0) ⟨#[], #[.agg #[.int .i64 0, .int .i64 0, .int .i64 0, .int .i64 0, .int .i64 0, .int .i64 0, .int .i64 0, .int .i64 0, .int .i64 0, .int .i64 0, .int .i64 0, .int .i64 0, .int .i64 0, .int .i64 0, .int .i64 0, .int .i64 0, .int .i64 0, .string ⟨#[]⟩, .string ⟨#[]⟩, .string ⟨#[]⟩, .int .i64 0, .int .i64 0, .bool false, .int .i64 0, .int .i64 0, .bool false]], []⟩).memory Tryd.f3.params.toList Rows.opsRightSpec.vars false #[.agg #[.int .i64 0, .int .i64 0, .int .i64 0, .int .i64 0, .int .i64 0, .int .i64 0, .int .i64 0, .int .i64 0, .int .i64 0, .int .i64 0, .int .i64 0, .int .i64 0, .int .i64 0, .int .i64 0, .int .i64 0, .int .i64 0, .int .i64 0, .string ⟨#[]⟩, .string ⟨#[]⟩, .string ⟨#[]⟩, .int .i64 0, .int .i64 0, .bool false, .int .i64 0, .int .i64 0, .bool false]].toList 8 = some ([.agg [.agg [.lit (.int .i64 0), .lit (.int .i64 0)], .agg [.lit (.int .i64 0), .lit (.int .i64 0), .lit (.int .i64 0), .lit (.int .i64 0), .lit (.int .i64 0), .lit (.int .i64 0), .lit (.int .i64 0), .lit (.int .i64 0)], .lit (.int .i64 0), .agg [.lit (.int .i64 0), .lit (.int .i64 0)], .lit (.int .i64 0), .lit (.int .i64 0), .agg [.lit (.int .i64 0), .lit (.int .i64 0)], .lit (.string []), .lit (.string []), .lit (.string []), .agg [.agg [.lit (.int .i64 0), .lit (.int .i64 0)], .lit (.bool false)], .agg [.agg [.lit (.int .i64 0), .lit (.int .i64 0)], .lit (.bool false)]]], [], []) := by kernel_rfl
set_option maxRecDepth 100000 in
theorem opsRight_lifted (os : Os) (started : os.Started) (H : Type) (enc : TypeId × Value → H) (F : Stop.Interp) :
    ReturnsInHanded {} Tryd.checked os 3 .any ((OpenSpec.ofChange Rows.opsRightSpec).preRow enc Tryd.prog Tryd.f3 Rows.opsRightRow.domain false Rows.opsRightRow.laid) (((OpenSpec.ofChange Rows.opsRightSpec).at F).post enc Tryd.prog Tryd.f3 false true false false) := by
  have hx := opsRight_reads os enc
  refine returnsInHanded_of_row (C := Tryd.checked) (s := OpenSpec.ofChange Rows.opsRightSpec) own started (by kernel_rfl) Tryd.func3
    (witness_row_at (enc := enc) (C := Tryd.checked) false (World.laidAll Tryd.prog os Rows.opsRightRow.laid) #[.agg #[.int .i64 0, .int .i64 0, .int .i64 0, .int .i64 0, .int .i64 0, .int .i64 0, .int .i64 0, .int .i64 0, .int .i64 0, .int .i64 0, .int .i64 0, .int .i64 0, .int .i64 0, .int .i64 0, .int .i64 0, .int .i64 0, .int .i64 0, .string ⟨#[]⟩, .string ⟨#[]⟩, .string ⟨#[]⟩, .int .i64 0, .int .i64 0, .bool false, .int .i64 0, .int .i64 0, .bool false]] (World.laidAll_os _ _ _) (by kernel_rfl) (by kernel_rfl) (by kernel_rfl)
      (OpenSpec.preRow_of_cond 8 hx (by kernel_rfl) (fun k hk => by cases hk) (by kernel_rfl) (opsRight_door os _))) ?_
  intro W base args ds gs before hval0 hW _ _ _ hL _ _
  have hval : ∀ (j : Nat) t v, Tryd.f3.params[j]? = some t → args[j]? = some v → Value.okWide Tryd.prog W .any base t v := hval0
  have hW' := hW
  obtain ⟨p, q, hA0, hV, rfl, hfz, hnd⟩ := hW
  have hA : DataW.TrodAll enc Tryd.prog W 0 (fun _ => true) true Tryd.f3.params.toList args.toList ds p := hA0
  rw [Tryd.params3] at hA hval
  obtain ⟨v0, vs0, d0, ds0, p0, q0, hargs, rfl, rfl, h0, r0⟩ := trodAll_cons hA
  obtain ⟨rfl, rfl, rfl⟩ := trodAll_nil r0
  obtain rfl : args = #[v0] := by cases args; simp_all
  obtain ⟨rfl, rfl⟩ := trodVars_none hV
  have lt0 : ∀ x ∈ p0, x.block < W.heap.size := by obtain ⟨m, hm⟩ := h0; exact DataW.trod_lt m _ _ _ hm
  obtain ⟨o, rfl, hfo⟩ := open_op (hval 0 31 v0 rfl rfl) h0
  clear hA0 hval0
  refine (right_walk o hfo W).mono fun e W' ⟨he, bel⟩ => ?_
  subst he
  exact ⟨_, rfl, _, _, _, [], _, [], hW', trodAll_mk1 (shut_bool Tryd.underlying4 _), (trodAll_cons_mk (Below.trod laidOut (by kernel_rfl) (of_decide_eq_true (by kernel_rfl)) h0 bel lt0) trodAll_mk0), rfl, bel.frame _, fun h => by cases h⟩

theorem opsRight_said : Rows.OpsRightSaid :=
  OpenClaim.holds_of_cond 3 Tryd.f3 rfl rfl rfl rfl rfl rfl rfl ⟨rfl, rfl, rfl, rfl, rfl⟩ rfl rfl rfl rfl rfl (by kernel_rfl) Tryd.func3 (by kernel_rfl)
    (of_decide_eq_true (by kernel_rfl)) (by unfold Func.isWrapper; first | (rw [if_pos (by decide +kernel)]; kernel_rfl) | (rw [if_neg (by decide +kernel)]; exact ⟨rfl, rfl⟩))
    (fun os started H enc _ F => by rw [OpenClaim.pre_eq_preRow]; exact opsRight_lifted os started H enc F)
theorem opsRight_plain (f : FuncId) (fn : Func) (hf : Tryd.pinned.checked.prog.funcNamed "stemma/stemmalaw07.OpsRight" = some f) (hfn : Tryd.pinned.checked.prog.funcs[f]? = some fn) :
    false = Tryd.pinned.checked.prog.looks [] ∧ ∀ (j : Nat) t, fn.params[j]? = some t → Tryd.pinned.checked.prog.wantsStandIn t = false := by
  obtain rfl : f = 3 := Option.some.inj ((show Tryd.prog.funcNamed "stemma/stemmalaw07.OpsRight" = some 3 by kernel_rfl).symm.trans hf) |>.symm
  obtain rfl : fn = Tryd.f3 := (Option.some.inj (Tryd.func3.symm.trans hfn)).symm
  refine ⟨by kernel_rfl, fun j t ht => ?_⟩
  rw [Tryd.params3] at ht
  have hm : t ∈ [31] := by simpa using Array.mem_of_getElem? ht
  have all : ∀ t ∈ [31], Tryd.prog.wantsStandIn t = false := by
    simp only [List.forall_mem_cons, List.not_mem_nil, false_imp_iff, implies_true, and_true]
    exact (by kernel_rfl)
  exact all t hm
theorem opsRight_holds : Rows.OpsRightCardSaid :=
  Claim7.holds_tied_plain_at .later [] _ _ _ _ opsRight_said (fun _ h => by cases h) (by kernel_rfl) (fun _ h => by cases h) opsRight_row_tie rfl ⟨rfl, rfl⟩ (by kernel_rfl) rfl opsRight_plain (by kernel_rfl)

end Go.Proofs.YtgmhjgknfeihiaaDoor
